/- The ideal evaluator (the second part): regions, code, calls. -/
import Derived.Test.YtdelfjdjenlaiaaGreatDoorIvBase
import Derived.OrdersIn
set_option linter.unusedSimpArgs false
set_option linter.unusedVariables false
namespace Go.Iv
open Go
noncomputable section
def bG (fi:FI) (ops:Array Oper) (E:En) (o:Oper):Option Bool:=
 match o.guard with
 |none=>some true
 |some (j,want)=>match (ops[j]?).bind (·.dst) with
  |some d=>match fw fi E d with
   | .bool b=>some (b==want)
   | .chan _=>none
   |_=>some false
  |none=>some false
def c7 (P:Program) (self:Self) (fi:FI) (ro:Option Nat) (ops:Array Oper):List Oper->En->IH->List Deferred->eS
 | [],T,H,D=>some (.normal,T,H,D)
 |o::rest,T,H,D=>
  match bG fi ops T o with
  |some true=>
   match aO P self (dC fi T) H o with
   |some (.val v H)=>c7 P self fi ro ops rest (c8 fi T o.dst v) H D
   |some (.skip H)=>c7 P self fi ro ops rest (c8 fi T o.dst undef) H D
   |some (.defer d H)=>if ro.isNone then c7 P self fi ro ops rest (c8 fi T o.dst undef) H (d::D) else none
   |some (.panic v H)=>some (.panic v,T,H,D)
   |none=>none
  |some false=>c7 P self fi ro ops rest (c8 fi T o.dst undef) H D
  |none=>none
def ll:Value->Value->Bool
 | .bool a,.bool b=>a==b
 | .int k a,.int k' b=>k==k' &&a==b
 | .string a,.string b=>bl a==bl b
 | .pointer a,.pointer b=>a==b
 | .slice a l c,.slice a' l' c'=>a==a' &&l==l' &&c==c'
 | .map a,.map b=>a==b
 | .nilFunc,.nilFunc=>true
 | .nilIface,.nilIface=>true
 |_,_=>false
def mg:List Value->List Value->Bool
 | [],[]=>true
 |a::x,b::y=>ll a b &&mg x y
 |_,_=>false
def ld:Value->Value->Bool
 | .agg a,.agg b=>mg a.toList b.toList
 | .tuple a,.tuple b=>mg a.toList b.toList
 | .func fn a c,.func fn' a' c'=>fn==fn' &&mg a.toList a'.toList &&mg c.toList c'.toList
 |a,b=>ll a b
inductive Kind where
 |pure |read |fresh |chain
 deriving DecidableEq
def kindOf (P:Program) (o:Oper):Kind:=
 match o.op with
 | .move _ | .assign _ | .pick .. | .nilCheck _ | .unOp .. | .fieldAddr .. | .field .. | .indexAddr .. | .index .. | .extract .. | .slice .. | .makeFunc .. | .makeInterface .. | .build .. | .typeAssert .. => .pure
 | .load .. | .lookup .. | .binOp .. => .read
 | .call { callee:= .builtin b,.. }=>match b with
  | .len | .cap | .max | .min | .unsafeSliceData=> .read
  |_=> .chain
 | .convert src dst _=>match P.underlying src,P.underlying dst with
  |some .string,some (.slice _)=> .fresh
  |some (.slice _),some (.slice _)=> .chain
  |_,_=> .read
 | .alloc _ | .box .. | .buildSlice .. | .makeSlice .. | .makeMap .. => .fresh
 |_=> .chain
def cX:List Oper->List Nat->List Nat
 | [],acc=>acc
 |o::rest,acc=>cX rest (acc++ [o.after.toList.foldl (fun s e=>if Region.binds .any e then s |||2^e.on |||acc.getD e.on 0 else s) 0])
structure Rd where
 i:Nat
 o:Oper
 T:En
 v:Value
structure DS where
 T:En
 H:IH
 bt:List (Nat×bA)
 bR:List (Nat×IH)
 reads:List Rd
def au (n0:Nat):List (Nat×bA)->IH->IH
 | [],H=>H
 |(i,o)::r,H=>(au n0 r H).put (n0+i) o
def zL (P:Program) (self:Self) (fi:FI) (T:En) (H:IH) (o:Oper):Option Value:=
 match aO P self (dC fi T) H o with
 |some (.val v _)=>some v
 |_=>none
def sameAt (P:Program) (self:Self) (fi:FI) (T:En) (H:IH) (o:Oper) (v:Value):Bool:=
 match zL P self fi T H o with
 |some v'=>ld v v'
 |none=>false
def fJ (P:Program) (self:Self) (fi:FI) (T:En) (o:Oper) (v:Value) (m:Nat):List (Nat×IH)->Bool
 | []=>true
 |(c,H)::rest=>(m.testBit c ||sameAt P self fi T H o v) &&fJ P self fi T o v m rest
def gp (P:Program) (self:Self) (fi:FI) (H:IH) (m:Nat):List Rd->Bool
 | []=>true
 |r::rest=>(m.testBit r.i ||sameAt P self fi r.T H r.o r.v) &&gp P self fi H m rest
def chained (m:Nat):List (Nat×IH)->Bool
 | []=>true
 |(c,_)::rest=>m.testBit c &&chained m rest
inductive DR where
 |done (s:DS)
 |panic (v:Value) (H:IH)
 |fail
def dH (P:Program) (self:Self) (fi:FI) (ops:Array Oper) (n0 i:Nat) (o:Oper) (m:Nat) (s:DS):DR:=
 match bG fi ops s.T o with
 |some true=>
  match kindOf P o with
  | .pure=>match aO P self (dC fi s.T) s.H o with
   |some (.val v _)=> .done { s with T:=c8 fi s.T o.dst v }
   |_=> .fail
  | .read=>match aO P self (dC fi s.T) s.H o with
   |some (.val v _)=>if fJ P self fi s.T o v m s.bR then
     .done { s with T:=c8 fi s.T o.dst v,reads:=⟨i,o,s.T,v⟩::s.reads } else .fail
   |_=> .fail
  | .fresh=>match aO P self (dC fi s.T) { s.H with n:=n0+i } o with
   |some (.val v H')=>match H'.get (n0+i) with
    |some ob=> .done { s with T:=c8 fi s.T o.dst v,bt:=(i,ob)::s.bt }
    |none=> .fail
   |_=> .fail
  | .chain=>
   if chained m s.bR then
    match aO P self (dC fi s.T) (au n0 (s.bt.filter fun x=>m.testBit x.1) s.H) o with
    |some (.val v H')=>if gp P self fi H' m s.reads then
      .done { T:=c8 fi s.T o.dst v,H:=H',bt:=s.bt.filter fun x=> !m.testBit x.1,bR:=(i,s.H)::s.bR,reads:=s.reads } else .fail
    |some (.skip H')=>if gp P self fi H' m s.reads then
      .done { T:=c8 fi s.T o.dst undef,H:=H',bt:=s.bt.filter fun x=> !m.testBit x.1,bR:=(i,s.H)::s.bR,reads:=s.reads } else .fail
    |some (.panic v H')=> .panic v H'
    |_=> .fail
   else .fail
 |some false=> .done { s with T:=c8 fi s.T o.dst undef }
 |none=> .fail
def aU (P:Program) (self:Self) (fi:FI) (ops:Array Oper) (n0:Nat):List Oper->Nat->List Nat->DS->Option (Nat×Value×IH)->DR
 | [],_,_,s,none=> .done s
 | [],_,_,_,some (_,v,H)=> .panic v H
 |_::_,_,[],_,_=> .fail
 |o::rest,i,m::ms,s,none=>
  match dH P self fi ops n0 i o m s with
  | .done s'=>aU P self fi ops n0 rest (i+1) ms s' none
  | .panic v H=>aU P self fi ops n0 rest (i+1) ms { s with bR:=(i,s.H)::s.bR } (some (i,v,H))
  | .fail=> .fail
 |o::rest,i,m::ms,s,some (c,v,H)=>
  if m.testBit c then aU P self fi ops n0 rest (i+1) ms s (some (c,v,H)) else
  match dH P self fi ops n0 i o m s with
  | .done s'=>aU P self fi ops n0 rest (i+1) ms s' (some (c,v,H))
  |_=> .fail
def gf (fi:FI):List Oper->En->En
 | [],T=>T
 |o::rest,T=>gf fi rest (c8 fi T o.dst aS)
def jT (ops:Array Oper) (ms:List Nat):Bool:=
 (List.range ops.size).all fun i=>
  match ops[i]?,ms[i]? with
  |some o,some m=>o.after.toList.all (fun e=> !Region.binds .any e ||decide (e.on<i)) &&(List.range ops.size).all fun j=>
    match ops[j]? with
    |some oj=>match oj.dst with
     |none=>true
     |some t=>(j==i ||o.dst !=some t) &&(m.testBit j ||(ms.getD j 0).testBit i || !(o.looksAt ops).contains t)
    |none=>true
  |_,_=>false
def fV (P:Program) (ops:Array Oper):Nat:=if ops.toList.any (fun o=>decide (kindOf P o= .fresh)) then ops.size else 0
def lI (P:Program) (self:Self) (fi:FI) (ops:Array Oper) (T:En) (H:IH) (D:List Deferred):eS:=
 let ms:=cX ops.toList []
 if jT ops ms then
  match aU P self fi ops H.n ops.toList 0 ms ⟨T,{ H with n:=H.n+fV P ops },[],[],[]⟩ none with
  | .done s=>some (.normal,s.T,au H.n s.bt s.H,D)
  | .panic v H=>some (.panic v,gf fi ops.toList T,H,D)
  | .fail=>none
 else none
def rl (H:IH):Option Nat->Bool
 |none=>true
 |some l=>match H.get l with
  |some (.loop ..)=>true
  |_=>false
def aA (P:Program) (self:Self) (fi:FI) (ro:Option Nat):Code->En->IH->List Deferred->eS
 | .skip,T,H,D=>some (.normal,T,H,D)
 | .region _ ops false,T,H,D=>c7 P self fi ro ops ops.toList T.reset H D
 | .region _ ops true,T,H,D=>lI P self fi ops T.reset H D
 | .seq a b,T,H,D=>match aA P self fi ro a T H D with
  |some (.normal,T,H,D)=>aA P self fi ro b T H D
  |r=>r
 | .cond c a b,T,H,D=>match dC fi T c with
  | .bool true=>aA P self fi ro a T H D
  | .bool false=>aA P self fi ro b T H D
  |_=>none
 | .block id c,T,H,D=>match aA P self fi ro c T H D with
  |some (.exit j,T,H,D)=>if j=id then some (.normal,T,H,D) else some (.exit j,T,H,D)
  |r=>r
 | .loop c,T,H,D=>match aA P self fi ro c T H D with
  |some (.normal,T,H,D)=>self.code fi ro (.loop c) T H D
  |r=>r
 | .rangeFunc f ps dZ body,T,H,D=>
  if !rl H ro then none else
  match dC fi T f with
  | .func (.func g) first captured=>
   let l:Nat:=match ro with |none=>H.n+1 |some _=>H.n
   let D:List Deferred:=match ro with |none=>{ target:= .collected H.n,args:=#[] }::D |some _=>D
   let H:IH:=match ro with |none=>H.new (.mf true) |some _=>H
   let H:=H.new (.loop .ready none fi T ps.toList dZ body)
   match self.call g (first.toList++ [Value.func (.yield l) #[] #[]]++captured.toList) H with
   |some (.returned _,H)=>
    match H.get l with
    |some (.loop st pd fi2 E2 ps dZ body)=>
     if st==LoopState.busy then none else
     let H:=H.put l (.loop .exhausted pd fi2 E2 ps dZ body)
     match pd with
     |none=>some (.normal,T,H,D)
     |some .ret=>some (.ret,T,H,D)
     |some (.exit id)=>some (.exit id,T,H,D)
     |_=>none
    |_=>none
   |some (.panicked v,H)=>some (.panic v,T,H,D)
   |none=>none
  |_=>none
 | .exit id,T,H,D=>some (.exit id,T,H,D)
 | .scope c,T,H,D=>aA P self fi ro c T H D
 | .label _,T,H,D=>some (.normal,T,H,D)
 | .goto _,_,_,_=>none
 | .ret,T,H,D=>some (.ret,T,H,D)
 | .refuse _,_,_,_=>none
def gq (P:Program) (fi:FI) (T:En) (H:IH):ResultVar->Option Value
 | .tmp t=>some (fw fi T t)
 | .cell a t=>match fw fi T a with
  | .pointer (some ⟨b,off,none⟩)=>iS P H t b off
  |_=>none
def ey (P:Program) (fi:FI) (fn:Func) (T:En) (H:IH):Option Value:=
 match fn.results.toList.mapM (gq P fi T H) with
 |some [v]=>some v
 |some vs=>some (.tuple ⟨vs⟩)
 |none=>none
inductive Mode where
 |returning
 |panicking (v:Value) (recovered:Bool)
def eI (P:Program) (self:Self) (fi:FI) (ops:Array Oper):List Oper->En->IH->Mode->Option (En×IH×Mode)
 | [],T,H,u=>some (T,H,u)
 |o::rest,T,H,u=>
  match bG fi ops T o with
  |some true=>
   match o.op with
   | .call { callee:= .builtin .recover,.. }=>
    match u with
    | .panicking v false=>eI P self fi ops rest (c8 fi T o.dst v) H (.panicking v true)
    |u=>eI P self fi ops rest (c8 fi T o.dst .nilIface) H u
   |_=>
    match aO P self (dC fi T) H o with
    |some (.val v H)=>eI P self fi ops rest (c8 fi T o.dst v) H u
    |some (.skip H)=>eI P self fi ops rest (c8 fi T o.dst undef) H u
    |_=>none
  |some false=>eI P self fi ops rest (c8 fi T o.dst undef) H u
  |none=>none
def F8 (ops:Array Oper):Bool:=ops.toList.any fun o=>match o.op with | .call { callee:= .builtin .recover,.. }=>true |_=>false
def calls (ops:Array Oper):Bool:=ops.toList.any fun o=>match o.op with | .call { callee:= .builtin _,.. }=>false | .call _=>true |_=>false
def vL:Nat->List Value->AL
 |_,[]=> .e
 |i,v::r=> .c i v (vL (i+1) r)
def eA (args:List Value):En:=⟨vL 0 args,.e⟩
abbrev Hint:=FuncId->List Nat
def cQ (hint:Hint) (f:FuncId) (fn:Func):FI:=⟨fn.ntmps,hint f,hint (2097152+f)⟩
def fits (fn:Func) (args:List Value):Bool:=Nat.ble args.length fn.ntmps
def qF (P:Program) (self:Self) (fi:FI) (fn:Func) (c:Code) (args:List Value) (H:IH):Option IH:=
 if fits fn args then
  match aA P self fi none c (eA args) H [] with
  |some (.normal,T,H,[]) |some (.ret,T,H,[])=>match ey P fi fn T H with
   |some _=>some H
   |none=>none
  |_=>none
 else none
def nd (P:Program) (hint:Hint) (self:Self) (f:FuncId) (args:List Value) (u:Mode) (H:IH):Option (Mode×IH):=
 match P.funcs[f]? with
 |some fn=>match fn.body with
  |some (.seq (.region id ops false) rest)=>
   if F8 ops && !calls ops &&fits fn args then
    match eI P self (cQ hint f fn) ops ops.toList (eA args) H u with
    |some (T,H,u)=>match aA P self (cQ hint f fn) none rest T H [] with
     |some (.normal,_,H,[]) |some (.ret,_,H,[])=>if fn.results.isEmpty then some (u,H) else none
     |_=>none
    |none=>none
   else
    match qF P self (cQ hint f fn) fn (.seq (.region id ops false) rest) args H with
    |some H=>some (u,H)
    |none=>none
  |some c=>match qF P self (cQ hint f fn) fn c args H with
   |some H=>some (u,H)
   |none=>none
  |none=>none
 |none=>none
def qT:Mode->Mode
 | .panicking _ true=> .returning
 |u=>u
def b8 (P:Program) (hint:Hint) (self:Self) (fi:FI) (fn:Func) (T:En):List Deferred->Mode->IH->Option (End×IH)
 | [],.returning,H=>match ey P fi fn T H with
  |some v=>some (.returned v,H)
  |none=>none
 | [],.panicking v false,H=>some (.panicked v,H)
 | [],.panicking _ true,_=>none
 |d::ds,u,H=>match d.target with
  | .collected r=>match H.get r with
   |some (.mf true)=>if dO<=r then b8 P hint self fi fn T ds u (H.put r (.mf false)) else none
   |_=>none
  | .fn (.func f) captured=>match nd P hint self f (d.args.toList++captured.toList) u H with
   |some (u,H)=>b8 P hint self fi fn T ds (qT u) H
   |none=>none
  |_=>none
def cb (P:Program) (hint:Hint) (self:Self) (f:FuncId) (args:List Value) (H:IH):Option (End×IH):=
 match P.funcs[f]? with
 |some fn=>match fn.body with
  |some c=>if fits fn args then match aA P self (cQ hint f fn) none c (eA args) H [] with
   |some (.normal,T,H,D) |some (.ret,T,H,D)=>b8 P hint self (cQ hint f fn) fn T D .returning H
   |some (.panic v,T,H,D)=>b8 P hint self (cQ hint f fn) fn T D (.panicking v false) H
   |_=>none
   else none
  |none=>none
 |none=>none
abbrev Spec:=FuncId->List Value->IH->Option (End×IH)
def Dm:Spec:=fun _ _ _=>none
def di (P:Program) (hint:Hint) (spec:Spec) (self:Self) (f:FuncId) (args:List Value) (H:IH):Option (End×IH):=
 match spec f args H with
 |some r=>some r
 |none=>cb P hint self f args H
def ev (P:Program) (hint:Hint) (spec:Spec):Nat->Self
 |0=>⟨fun _ _ _ _ _ _=>none,fun _ _ _=>none⟩
 |n+1=>⟨aA P (ev P hint spec n),di P hint spec (ev P hint spec n)⟩
end
end Go.Iv
