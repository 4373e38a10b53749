/- The abstract machine, part Comp. -/
import Derived.Test.YthcpaohmajjopaaGreatDoorAmSteps
set_option linter.unusedVariables false
set_option linter.unusedSimpArgs false
namespace Go.Proofs.YthcpaohmajjopaaGreatDoor.AM
open Go
def szOf (P:Program) (t:TypeId):Option Nat:=(P.info? t).map (·.size)
def isAggT (P:Program) (t:TypeId):Bool :=
 match P.underlying t with
 | some (.struct _)=>true
 | some (.array _ _)=>true
 | _=>false
def cLeaf (lst:Nat → Nat → L) (P:Program) (t:TypeId) (v:Value):Option L :=
 match v with
 | .bool b=>some (.bool b)
 | .int k n=>some (.int k n)
 | .string s=>some (.str s)
 | .pointer none=>some .nilp
 | .nilIface=>some .nili
 | .nilFunc=>some .nilf
 | .slice none 0 0=>match P.underlying t with
  | some (.slice e)=>(szOf P e).map fun n=>lst e n
  | _=>none
 | _=>none
def nlL (_e n:Nat):L:=.lst .nl n [] []
def cOpd (P:Program) (t:TypeId):Operand → Option AO
 | .tmp n=>some (.t n)
 | .const v=>(cLeaf nlL P t v).map fun x=>.k (.lf x)
 | .global g=>some (.k (.lf (.gl g 0)))
 | .func f=>some (.k (.lf (.fn f [] [])))
def leafTys (P:Program):Nat → TypeId → List TypeId
 | 0,_=>[]
 | d + 1,t=>match P.underlying t with
  | some (.struct fs)=>fs.toList.flatMap fun f=>leafTys P d f.type
  | some (.array n e)=>(List.replicate n (leafTys P d e)).flatten
  | _=>[t]
def cZero (lst:Nat → Nat → Nat → L) (P:Program):Nat → List TypeId → List Value → Option (List L)
 | _,[],[]=>some []
 | i,t :: ts,v :: vs=>match cLeaf (lst i) P t v,cZero lst P (i + 1) ts vs with
  | some x,some xs=>some (x :: xs)
  | _,_=>none
 | _,_,_=>none
def layOK (P:Program) (off:Nat):List Field → Nat → Bool
 | [],e=>off == e
 | f :: fs,e=>f.name != "_" && f.offset == off && (match szOf P f.type with | some n=>layOK P (off + n) fs e | none=>false)
def kindsT (P:Program):Nat → TypeId → List Nat
 | 0,_=>[]
 | d + 1,t=>match P.underlying t with
  | some .bool=>[1]
  | some (.int _)=>[2]
  | some .string=>[3]
  | some (.struct fs)=>fs.toList.flatMap fun f=>kindsT P d f.type
  | some (.array m e)=>(List.replicate m (kindsT P d e)).flatten
  | _=>[]
def eqTy (P:Program):Nat → TypeId → Bool
 | 0,_=>false
 | d + 1,t=>szOf P t == some (kindsT P (d + 1) t).length && match P.underlying t with
  | some .bool=>true
  | some (.int _)=>true
  | some .string=>true
  | some (.struct fs)=>!P.stoodInHeld t && layOK P 0 fs.toList (kindsT P (d + 1) t).length && fs.toList.all (fun f=>eqTy P d f.type)
  | some (.array _ e)=>eqTy P d e
  | _=>false
def zeroOf (lst:Nat → Nat → Nat → L) (P:Program) (t:TypeId):Option (List L) :=
 match P.info? t with
 | some i=>match i.zero with
  | some z=>cZero lst P 0 (leafTys P 8 t) z.cells.toList
  | none=>none
 | none=>none
def optA (P:Program) (t:TypeId):Option Operand → Option (Option AO)
 | none=>some none
 | some x=>(cOpd P t x).map some
def cParts (P:Program) (e:TypeId):List (Nat × Operand) → Option (List (Nat × AO))
 | []=>some []
 |(i,x) :: r=>match cOpd P e x,cParts P e r with
  | some y,some ys=>some ((i,y) :: ys)
  | _,_=>none
def cFields (P:Program) (place:Nat → Option (TypeId × Nat)):List (Nat × Operand) → Option (List (Nat × Nat × AO))
 | []=>some []
 |(i,x) :: r=>match place i with
  | some (t,off)=>match szOf P t,cOpd P t x,cFields P place r with
   | some n,some y,some ys=>some ((off,n,y) :: ys)
   | _,_,_=>none
  | none=>none
def cArgs (P:Program):List Operand → List TypeId → Option (List AO)
 | [],_=>some []
 | x :: xs,ts=>match cOpd P (ts.headD 0) x,cArgs P xs ts.tail with
  | some y,some ys=>some (y :: ys)
  | _,_=>none
def isPtrT (P:Program) (t:TypeId):Bool :=
 match P.underlying t with
 | some (.pointer _)=>true
 | _=>false
def ptrAt (P:Program) (ts:List TypeId):Option Nat:=ts.findIdx? (isPtrT P)
def isStrT (P:Program) (t:TypeId):Bool :=
 match P.underlying t with
 | some .string=>true
 | _=>false
def isZ8:Value → Bool
 | .int .u8 0=>true
 | _=>false
def isSlT (P:Program) (t:TypeId):Bool :=
 match P.underlying t with
 | some (.slice _)=>true
 | _=>false
def callOf (P:Program) (f:Nat) (ts rs:List TypeId) (args:List AO):AOp :=
 match ptrAt P ts with
 | some ip=>if ts.any (isSlT P) && rs.any (isSlT P) then .callg f ip args else .callp f ip args
 | none=>.call f args
def selfT (P:Program):Nat → TypeId → Bool
 | 0,_=>false
 | d + 1,t=>match P.underlying t with
  | some (.struct fs)=>fs.toList.any fun f=>(match P.underlying f.type with
   | some (.pointer u)=>u == t
   | some (.struct _)=>selfT P d f.type
   | _=>false)
  | _=>false
def isU8 (P:Program) (e:TypeId):Bool:=P.cellsOf e == 1
def extN (fn:Func):Option Nat :=
 if fn.body.isNone && fn.origin == "" then
  (if fn.name == "internal/abi.NoEscape" then some 0 else if fn.name == "internal/bytealg.CountString" then some 1 else if fn.name == "internal/bytealg.IndexByteString" then some 2 else none)
 else none
def compileOp (P:Program) (o:Oper):Option AOp :=
 match o.op with
 | .move x=>(cOpd P o.type x).map .mv
 | .assign x=>match cOpd P o.type x with
  | some x=>match P.underlying o.type with
   | some (.slice e)=>(szOf P e).map fun n=>.as e n x
   | _=>some (.as 0 0 x)
  | none=>none
 | .pick c a b=>match cOpd P o.type c,cOpd P o.type a,cOpd P o.type b with
  | some c,some a,some b=>some (.pk c a b)
  | _,_,_=>none
 | .binOp op t x y0 u=>match cOpd P t x,cOpd P u y0 with
  | some x,some y=>match P.underlying t with
   | some .bool=>(match op with | .eql=>some (.bqb false x y) | .neq=>some (.bqb true x y) | _=>none)
   | some (.int _)=>some (.bin op x y)
   | some .string=>some (.bin op x y)
   | some (.pointer e)=>(match P.info? e,op with
    | some _,.eql=>some (.peq false x y)
    | some _,.neq=>some (.peq true x y)
    | _,_=>none)
   | some (.interface _)=>(match y0,y,op with
    | .const _,.k (.lf .nili),.eql=>some (.ieq false x)
    | .const _,.k (.lf .nili),.neq=>some (.ieq true x)
    | _,_,_=>none)
   | _=>if isAggT P t && eqTy P 6 t && !P.eqGuardType P.depth t then (match op with | .eql=>some (.beq false (kindsT P 6 t) x y) | .neq=>some (.beq true (kindsT P 6 t) x y) | _=>none) else none
  | _,_=>none
 | .unOp op t x=>(cOpd P t x).map fun x=>.un op x
 | .convert s d x=>match cOpd P s x,P.underlying s,P.underlying d with
  | some x,some (.int _),some (.int k)=>some (.cvi k x)
  | some x,some .string,some .string=>some (.cvs x)
  | some x,some (.slice e),some .string=>(match P.underlying e with | some (.int .u8)=>some (.cbs x) | _=>none)
  | some x,some (.pointer t),some .unsafePointer=>(match P.info? t with | some j=>if j.size = 0 then none else some (.p2u x) | none=>none)
  | some x,some .unsafePointer,some (.pointer u)=>(match P.info? u with | some _=>some (.u2p u x) | none=>none)
  | _,_,_=>none
 | .extract x i=>(cOpd P o.type x).map fun x=>.ext x i
 | .field t x f=>match cOpd P t x,P.underlying t with
  | some x,some (.struct fs)=>match fs[f]? with
   | some fd=>match P.underlying fd.type with
    | some _=>(szOf P fd.type).map fun n=>.fld x fd.offset n (isAggT P fd.type)
    | none=>none
   | none=>none
  | _,_=>none
 | .index t x i=>match cOpd P t x,cOpd P 0 i,P.underlying t with
  | some x,some i,some .string=>some (.ixs x i)
  | _,_,_=>none
 | .alloc t=>match o.dst with
  | some d=>(zeroOf (fun k e n=>.lst (.own (plC d k) e) n [] []) P t).map fun z=>if selfT P 3 t then .alt t z else .al z
  | none=>none
 | .box t x=>(cOpd P t x).map fun y=>if selfT P 3 t then .bxt t y else .bx y
 | .fieldAddr t x f=>match cOpd P 0 x,P.underlying t with
  | some x,some (.struct fs)=>match fs[f]? with
   | some fd=>match szOf P fd.type with
    | some n=>if n = 0 then none else some (.fa x fd.offset)
    | none=>none
   | none=>none
  | _,_=>none
 | .indexAddr t x i=>match cOpd P t x,cOpd P 0 i,P.underlying t with
  | some x,some i,some (.slice e)=>(szOf P e).map fun n=>.ia x i n
  | some x,some i,some (.array len e)=>(szOf P e).map fun n=>.iaa x i len n
  | _,_,_=>none
 | .load t x=>match cOpd P 0 x,szOf P t,P.underlying t with
  | some x,some n,some _=>some (.ld x n (isAggT P t))
  | _,_,_=>none
 | .store t x v=>match cOpd P 0 x,cOpd P t v,szOf P t with
  | some x,some v,some n=>if n = 0 ∨ o.dst.isSome = true then none else some (.st x v n)
  | _,_,_=>none
 | .nilCheck x=>(cOpd P o.type x).map .nc
 | .build t parts=>match P.underlying t with
  | some (.struct fs)=>match zeroOf (fun _ _ n=>.lst .nl n [] []) P t,cFields P (fun i=>(fs[i]?).map fun f=>(f.type,f.offset)) parts.toList,fs.toList.mapM (fun f=>(P.info? f.type).map fun i=>(f.offset,i.size)) with
   | some z,some ps,some _=>some (.bd z ps)
   | _,_,_=>none
  | some (.array _ e)=>match szOf P e with
   | some n=>match zeroOf (fun _ _ n=>.lst .nl n [] []) P t,cFields P (fun i=>some (e,i * n)) parts.toList with
    | some z,some ps=>some (.bd z ps)
    | _,_=>none
   | none=>none
  | _=>none
 | .buildSlice t len parts=>match P.underlying t with
  | some (.slice e)=>match szOf P e,zeroOf (fun _ _ n=>.lst .ro n [] []) P e,cParts P e parts.toList with
   | some n,some z,some ps=>if n = 0 then none else if isPtrT P e then some (.bsf e n len z ps) else some (.bs e n len z ps)
   | _,_,_=>none
  | _=>none
 | .makeSlice t l c=>match P.underlying t with
  | some (.slice e)=>match P.info? e,zeroOf (fun _ _ n=>.lst .ro n [] []) P e,cOpd P 0 l,cOpd P 0 c with
   | some i,some z,some l,some c=>if i.size = 0 then none else some (.ms e i.size i.bytes z l c)
   | _,_,_,_=>none
  | _=>none
 | .slice t x lo hi none=>match cOpd P t x,optA P 0 lo,optA P 0 hi with
  | some x,some lo,some hi=>match P.underlying t with
   | some .string=>some (.sls x lo hi)
   | some (.slice e)=>(szOf P e).map fun n=>.sll n x lo hi
   | _=>none
  | _,_,_=>none
 | .makeInterface t x=>match cOpd P t x,P.underlying t with
  | some x,some (.int _)=>some (.mi t x)
  | some x,some .string=>some (.mi t x)
  | _,_=>none
 | .range t x=>match cOpd P t x,P.underlying t with
  | some x,some .string=>some (.rng x)
  | _,_=>none
 | .next x true=>(cOpd P 0 x).map .nxt
 | .panic _=>some .bad
 | .makeFunc (.func f) a b=>match cArgs P a.toList [],cArgs P b.toList [] with
  | some a,some b=>some (.mkf f a b)
  | _,_=>none
 | .call c=>match c.callee with
  | .builtin .unsafeSliceData=>match c.args.toList,c.argTypes.toList with
   | [x],[t]=>(cOpd P t x).map .usd
   | _,_=>none
  | .builtin .unsafeString=>match c.args.toList,c.argTypes.toList with
   | [x,y],[t,u]=>match cOpd P t x,cOpd P u y,P.underlying t with
    | some x,some y,some (.pointer e)=>if isU8 P e then some (.ust e x y) else none
    | _,_,_=>none
   | _,_=>none
  | .builtin .max=>match c.args.toList,c.argTypes.toList with
   | [x,y],[t,u]=>match cOpd P t x,cOpd P u y with
    | some x,some y=>some (.mm true x y)
    | _,_=>none
   | _,_=>none
  | .builtin .min=>match c.args.toList,c.argTypes.toList with
   | [x,y],[t,u]=>match cOpd P t x,cOpd P u y with
    | some x,some y=>some (.mm false x y)
    | _,_=>none
   | _,_=>none
  | .builtin .len=>match c.args.toList,c.argTypes.toList with
   | [x],[t]=>match cOpd P t x,P.underlying t with
    | some x,some (.slice _)=>some (.len x)
    | some x,some .string=>some (.lns x)
    | _,_=>none
   | _,_=>none
  | .builtin .append=>match c.args.toList,c.argTypes.toList with
   | [x,y],[t,u]=>match P.underlying t with
    | some (.slice e)=>match P.info? e,cOpd P t x,cOpd P u y with
     | some i,some x,some y=>match i.zero with
      | some z=>if i.size = 0 ∨ i.bytes = 0 ∨ z.cells.size ≠ i.size then none
       else if u = t then some (.app e i.size i.bytes x y)
       else if i.size == 1 && i.bytes == 1 && isStrT P u && isZ8 z then some (.aps e x y) else none
      | none=>none
     | _,_,_=>none
    | _=>none
   | _,_=>none
  | .value (.func f)=>match P.funcs[f]? with
   | some fn=>if fn.body.isNone ∨ fn.name == "runtime.NumGoroutine" then (match extN fn,cArgs P c.args.toList fn.params.toList with
     | some k,some args=>some (.ex k args)
     | _,_=>none) else (cArgs P c.args.toList fn.params.toList).map fun args=>callOf P f fn.params.toList fn.resultTypes.toList args
   | none=>none
  | .value (.tmp x)=>(cArgs P c.args.toList []).map fun args=>.cald (.t x) args
  | _=>none
 | _=>none
def dstB (o:Oper) (n:Nat):Bool :=
 match o.dst with
 | some d=>decide (d < n)
 | none=>true
def compileOper (P:Program) (ops:Array Oper) (n:Nat) (o:Oper):Option AOper :=
 if dstB o n then
  match compileOp P o with
  | some op=>match o.guard with
   | none=>some ⟨o.dst,op,none⟩
   | some (j,want)=>match (ops[j]?).bind (·.dst) with
    | some t=>if t < n then some ⟨o.dst,op,some (t,want)⟩ else none
    | none=>none
  | none=>none
 else none
end Go.Proofs.YthcpaohmajjopaaGreatDoor.AM
