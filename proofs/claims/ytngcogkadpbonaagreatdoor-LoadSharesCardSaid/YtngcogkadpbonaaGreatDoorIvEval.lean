/- The ideal evaluator (the second part): regions, code, calls. -/
import Derived.Test.YtngcogkadpbonaaGreatDoorIvBase
import Derived.OrdersIn
set_option linter.unusedSimpArgs false
set_option linter.unusedVariables false
namespace Go.Iv
open Go
noncomputable section
def aS (fi:FI) (ops:Array Oper) (E:En) (o:Oper):Option Bool:=
 match o.guard with
 |none=>some true
 |some (j,want)=>match (ops[j]?).bind (·.dst) with
  |some d=>match dC fi E d with
   | .bool b=>some (b==want)
   | .chan _=>none
   |_=>some false
  |none=>some false
def cf (P:Program) (self:Self) (fi:FI) (ro:Option Nat) (ops:Array Oper):List Oper->En->IH->List Deferred->bF
 | [],T,H,D=>some (.normal,T,H,D)
 |o::rest,T,H,D=>
  match aS fi ops T o with
  |some true=>
   match aC P self (cg fi T) H o with
   |some (.val v H)=>cf P self fi ro ops rest (a3 fi T o.dst v) H D
   |some (.skip H)=>cf P self fi ro ops rest (a3 fi T o.dst undef) H D
   |some (.defer d H)=>if ro.isNone then cf P self fi ro ops rest (a3 fi T o.dst undef) H (d::D) else none
   |some (.panic v H)=>some (.panic v,T,H,D)
   |none=>none
  |some false=>cf P self fi ro ops rest (a3 fi T o.dst undef) H D
  |none=>none
def sX:Value->Value->Bool
 | .bool a,.bool b=>a==b
 | .int k a,.int k' b=>k==k' &&a==b
 | .string a,.string b=>bl a==bl b
 | .pointer a,.pointer b=>a==b
 | .slice a l c,.slice a' l' c'=>a==a' &&l==l' &&c==c'
 | .map a,.map b=>a==b
 | .nilFunc,.nilFunc=>true
 | .nilIface,.nilIface=>true
 |_,_=>false
def fh:List Value->List Value->Bool
 | [],[]=>true
 |a::x,b::y=>sX a b &&fh x y
 |_,_=>false
def iQ:Value->Value->Bool
 | .agg a,.agg b=>fh a.toList b.toList
 | .tuple a,.tuple b=>fh a.toList b.toList
 | .func fn a c,.func fn' a' c'=>fn==fn' &&fh a.toList a'.toList &&fh c.toList c'.toList
 |a,b=>sX a b
inductive Kind where
 |pure |read |fresh |chain
 deriving DecidableEq
def kindOf (P:Program) (o:Oper):Kind:=
 match o.op with
 | .move _ | .assign _ | .pick .. | .nilCheck _ | .unOp .. | .fieldAddr .. | .field .. | .indexAddr .. | .index .. | .extract .. | .slice .. | .makeFunc .. | .makeInterface .. | .build .. | .typeAssert .. => .pure
 | .load .. | .lookup .. | .binOp .. => .read
 | .call { callee:= .builtin b,.. }=>match b with
  | .len | .cap | .max | .min | .unsafeSliceData=> .read
  |_=> .chain
 | .convert src dst _=>match P.underlying src,P.underlying dst with
  |some .string,some (.slice _)=> .fresh
  |some (.slice _),some (.slice _)=> .chain
  |_,_=> .read
 | .alloc _ | .box .. | .buildSlice .. | .makeSlice .. | .makeMap .. => .fresh
 |_=> .chain
def aY:List Oper->List Nat->List Nat
 | [],acc=>acc
 |o::rest,acc=>aY rest (acc++ [o.after.toList.foldl (fun s e=>if Region.binds .any e then s |||2^e.on |||acc.getD e.on 0 else s) 0])
structure Rd where
 i:Nat
 o:Oper
 T:En
 v:Value
structure DS where
 T:En
 H:IH
 bK:List (Nat×aq)
 aR:List (Nat×IH)
 reads:List Rd
def aB (n0:Nat):List (Nat×aq)->IH->IH
 | [],H=>H
 |(i,o)::r,H=>(aB n0 r H).put (n0+i) o
def KF (P:Program) (self:Self) (fi:FI) (T:En) (H:IH) (o:Oper):Option Value:=
 match aC P self (cg fi T) H o with
 |some (.val v _)=>some v
 |_=>none
def sameAt (P:Program) (self:Self) (fi:FI) (T:En) (H:IH) (o:Oper) (v:Value):Bool:=
 match KF P self fi T H o with
 |some v'=>iQ v v'
 |none=>false
def dw (P:Program) (self:Self) (fi:FI) (T:En) (o:Oper) (v:Value) (m:Nat):List (Nat×IH)->Bool
 | []=>true
 |(c,H)::rest=>(m.testBit c ||sameAt P self fi T H o v) &&dw P self fi T o v m rest
def cP (P:Program) (self:Self) (fi:FI) (H:IH) (m:Nat):List Rd->Bool
 | []=>true
 |r::rest=>(m.testBit r.i ||sameAt P self fi r.T H r.o r.v) &&cP P self fi H m rest
def chained (m:Nat):List (Nat×IH)->Bool
 | []=>true
 |(c,_)::rest=>m.testBit c &&chained m rest
inductive DR where
 |done (s:DS)
 |panic (v:Value) (H:IH)
 |fail
def bm (P:Program) (self:Self) (fi:FI) (ops:Array Oper) (n0 i:Nat) (o:Oper) (m:Nat) (s:DS):DR:=
 match aS fi ops s.T o with
 |some true=>
  match kindOf P o with
  | .pure=>match aC P self (cg fi s.T) s.H o with
   |some (.val v _)=> .done { s with T:=a3 fi s.T o.dst v }
   |_=> .fail
  | .read=>match aC P self (cg fi s.T) s.H o with
   |some (.val v _)=>if dw P self fi s.T o v m s.aR then
     .done { s with T:=a3 fi s.T o.dst v,reads:=⟨i,o,s.T,v⟩::s.reads } else .fail
   |_=> .fail
  | .fresh=>match aC P self (cg fi s.T) { s.H with n:=n0+i } o with
   |some (.val v H')=>match H'.get (n0+i) with
    |some ob=> .done { s with T:=a3 fi s.T o.dst v,bK:=(i,ob)::s.bK }
    |none=> .fail
   |_=> .fail
  | .chain=>
   if chained m s.aR then
    match aC P self (cg fi s.T) (aB n0 (s.bK.filter fun x=>m.testBit x.1) s.H) o with
    |some (.val v H')=>if cP P self fi H' m s.reads then
      .done { T:=a3 fi s.T o.dst v,H:=H',bK:=s.bK.filter fun x=> !m.testBit x.1,aR:=(i,s.H)::s.aR,reads:=s.reads } else .fail
    |some (.skip H')=>if cP P self fi H' m s.reads then
      .done { T:=a3 fi s.T o.dst undef,H:=H',bK:=s.bK.filter fun x=> !m.testBit x.1,aR:=(i,s.H)::s.aR,reads:=s.reads } else .fail
    |some (.panic v H')=> .panic v H'
    |_=> .fail
   else .fail
 |some false=> .done { s with T:=a3 fi s.T o.dst undef }
 |none=> .fail
def aE (P:Program) (self:Self) (fi:FI) (ops:Array Oper) (n0:Nat):List Oper->Nat->List Nat->DS->Option (Nat×Value×IH)->DR
 | [],_,_,s,none=> .done s
 | [],_,_,_,some (_,v,H)=> .panic v H
 |_::_,_,[],_,_=> .fail
 |o::rest,i,m::ms,s,none=>
  match bm P self fi ops n0 i o m s with
  | .done s'=>aE P self fi ops n0 rest (i+1) ms s' none
  | .panic v H=>aE P self fi ops n0 rest (i+1) ms { s with aR:=(i,s.H)::s.aR } (some (i,v,H))
  | .fail=> .fail
 |o::rest,i,m::ms,s,some (c,v,H)=>
  if m.testBit c then aE P self fi ops n0 rest (i+1) ms s (some (c,v,H)) else
  match bm P self fi ops n0 i o m s with
  | .done s'=>aE P self fi ops n0 rest (i+1) ms s' (some (c,v,H))
  |_=> .fail
def cz (fi:FI):List Oper->En->En
 | [],T=>T
 |o::rest,T=>cz fi rest (a3 fi T o.dst ay)
def dD (ops:Array Oper) (ms:List Nat):Bool:=
 (List.range ops.size).all fun i=>
  match ops[i]?,ms[i]? with
  |some o,some m=>o.after.toList.all (fun e=> !Region.binds .any e ||decide (e.on<i)) &&(List.range ops.size).all fun j=>
    match ops[j]? with
    |some oj=>match oj.dst with
     |none=>true
     |some t=>(j==i ||o.dst !=some t) &&(m.testBit j ||(ms.getD j 0).testBit i || !(o.looksAt ops).contains t)
    |none=>true
  |_,_=>false
def dx (P:Program) (ops:Array Oper):Nat:=if ops.toList.any (fun o=>decide (kindOf P o= .fresh)) then ops.size else 0
def hM (P:Program) (self:Self) (fi:FI) (ops:Array Oper) (T:En) (H:IH) (D:List Deferred):bF:=
 let ms:=aY ops.toList []
 if dD ops ms then
  match aE P self fi ops H.n ops.toList 0 ms ⟨T,{ H with n:=H.n+dx P ops },[],[],[]⟩ none with
  | .done s=>some (.normal,s.T,aB H.n s.bK s.H,D)
  | .panic v H=>some (.panic v,cz fi ops.toList T,H,D)
  | .fail=>none
 else none
def LC (H:IH):Option Nat->Bool
 |none=>true
 |some l=>match H.get l with
  |some (.loop ..)=>true
  |_=>false
def aH (P:Program) (self:Self) (fi:FI) (ro:Option Nat):Code->En->IH->List Deferred->bF
 | .skip,T,H,D=>some (.normal,T,H,D)
 | .region _ ops false,T,H,D=>cf P self fi ro ops ops.toList T.reset H D
 | .region _ ops true,T,H,D=>hM P self fi ops T.reset H D
 | .seq a b,T,H,D=>match aH P self fi ro a T H D with
  |some (.normal,T,H,D)=>aH P self fi ro b T H D
  |r=>r
 | .cond c a b,T,H,D=>match cg fi T c with
  | .bool true=>aH P self fi ro a T H D
  | .bool false=>aH P self fi ro b T H D
  |_=>none
 | .block id c,T,H,D=>match aH P self fi ro c T H D with
  |some (.exit j,T,H,D)=>if j=id then some (.normal,T,H,D) else some (.exit j,T,H,D)
  |r=>r
 | .loop c,T,H,D=>match aH P self fi ro c T H D with
  |some (.normal,T,H,D)=>self.code fi ro (.loop c) T H D
  |r=>r
 | .rangeFunc f ps asg body,T,H,D=>
  if !LC H ro then none else
  match cg fi T f with
  | .func (.func g) first captured=>
   let l:Nat:=match ro with |none=>H.n+1 |some _=>H.n
   let D:List Deferred:=match ro with |none=>{ target:= .collected H.n,args:=#[] }::D |some _=>D
   let H:IH:=match ro with |none=>H.new (.jQ true) |some _=>H
   let H:=H.new (.loop .ready none fi T ps.toList asg body)
   match self.call g (first.toList++ [Value.func (.yield l) #[] #[]]++captured.toList) H with
   |some (.returned _,H)=>
    match H.get l with
    |some (.loop st pd fi2 E2 ps asg body)=>
     if st==LoopState.busy then none else
     let H:=H.put l (.loop .exhausted pd fi2 E2 ps asg body)
     match pd with
     |none=>some (.normal,T,H,D)
     |some .ret=>some (.ret,T,H,D)
     |some (.exit id)=>some (.exit id,T,H,D)
     |_=>none
    |_=>none
   |some (.panicked v,H)=>some (.panic v,T,H,D)
   |none=>none
  |_=>none
 | .exit id,T,H,D=>some (.exit id,T,H,D)
 | .scope c,T,H,D=>aH P self fi ro c T H D
 | .label _,T,H,D=>some (.normal,T,H,D)
 | .goto _,_,_,_=>none
 | .ret,T,H,D=>some (.ret,T,H,D)
 | .refuse _,_,_,_=>none
def dP (P:Program) (fi:FI) (T:En) (H:IH):ResultVar->Option Value
 | .tmp t=>some (dC fi T t)
 | .cell a t=>match dC fi T a with
  | .pointer (some ⟨b,off,none⟩)=>fK P H t b off
  |_=>none
def c5 (P:Program) (fi:FI) (fn:Func) (T:En) (H:IH):Option Value:=
 match fn.results.toList.mapM (dP P fi T H) with
 |some [v]=>some v
 |some vs=>some (.tuple ⟨vs⟩)
 |none=>none
inductive Mode where
 |returning
 |panicking (v:Value) (recovered:Bool)
def dg (P:Program) (self:Self) (fi:FI) (ops:Array Oper):List Oper->En->IH->Mode->Option (En×IH×Mode)
 | [],T,H,u=>some (T,H,u)
 |o::rest,T,H,u=>
  match aS fi ops T o with
  |some true=>
   match o.op with
   | .call { callee:= .builtin .recover,.. }=>
    match u with
    | .panicking v false=>dg P self fi ops rest (a3 fi T o.dst v) H (.panicking v true)
    |u=>dg P self fi ops rest (a3 fi T o.dst .nilIface) H u
   |_=>
    match aC P self (cg fi T) H o with
    |some (.val v H)=>dg P self fi ops rest (a3 fi T o.dst v) H u
    |some (.skip H)=>dg P self fi ops rest (a3 fi T o.dst undef) H u
    |_=>none
  |some false=>dg P self fi ops rest (a3 fi T o.dst undef) H u
  |none=>none
def K1 (ops:Array Oper):Bool:=ops.toList.any fun o=>match o.op with | .call { callee:= .builtin .recover,.. }=>true |_=>false
def calls (ops:Array Oper):Bool:=ops.toList.any fun o=>match o.op with | .call { callee:= .builtin _,.. }=>false | .call _=>true |_=>false
def mT:Nat->List Value->AL
 |_,[]=> .e
 |i,v::r=> .c i v (mT (i+1) r)
def bH (args:List Value):En:=⟨mT 0 args,.e⟩
abbrev Hint:=FuncId->List Nat
def fx (hint:Hint) (f:FuncId) (fn:Func):FI:=⟨fn.ntmps,hint f⟩
def fits (fn:Func) (args:List Value):Bool:=Nat.ble args.length fn.ntmps
def fb (P:Program) (self:Self) (fi:FI) (fn:Func) (c:Code) (args:List Value) (H:IH):Option IH:=
 if fits fn args then
  match aH P self fi none c (bH args) H [] with
  |some (.normal,T,H,[]) |some (.ret,T,H,[])=>match c5 P fi fn T H with
   |some _=>some H
   |none=>none
  |_=>none
 else none
def iY (P:Program) (hint:Hint) (self:Self) (f:FuncId) (args:List Value) (u:Mode) (H:IH):Option (Mode×IH):=
 match P.funcs[f]? with
 |some fn=>match fn.body with
  |some (.seq (.region id ops false) rest)=>
   if K1 ops && !calls ops &&fits fn args then
    match dg P self (fx hint f fn) ops ops.toList (bH args) H u with
    |some (T,H,u)=>match aH P self (fx hint f fn) none rest T H [] with
     |some (.normal,_,H,[]) |some (.ret,_,H,[])=>if fn.results.isEmpty then some (u,H) else none
     |_=>none
    |none=>none
   else
    match fb P self (fx hint f fn) fn (.seq (.region id ops false) rest) args H with
    |some H=>some (u,H)
    |none=>none
  |some c=>match fb P self (fx hint f fn) fn c args H with
   |some H=>some (u,H)
   |none=>none
  |none=>none
 |none=>none
def sT:Mode->Mode
 | .panicking _ true=> .returning
 |u=>u
def bZ (P:Program) (hint:Hint) (self:Self) (fi:FI) (fn:Func) (T:En):List Deferred->Mode->IH->Option (End×IH)
 | [],.returning,H=>match c5 P fi fn T H with
  |some v=>some (.returned v,H)
  |none=>none
 | [],.panicking v false,H=>some (.panicked v,H)
 | [],.panicking _ true,_=>none
 |d::ds,u,H=>match d.target with
  | .collected r=>match H.get r with
   |some (.jQ true)=>if dB<=r then bZ P hint self fi fn T ds u (H.put r (.jQ false)) else none
   |_=>none
  | .fn (.func f) captured=>match iY P hint self f (d.args.toList++captured.toList) u H with
   |some (u,H)=>bZ P hint self fi fn T ds (sT u) H
   |none=>none
  |_=>none
def eK (P:Program) (hint:Hint) (self:Self) (f:FuncId) (args:List Value) (H:IH):Option (End×IH):=
 match P.funcs[f]? with
 |some fn=>match fn.body with
  |some c=>if fits fn args then match aH P self (fx hint f fn) none c (bH args) H [] with
   |some (.normal,T,H,D) |some (.ret,T,H,D)=>bZ P hint self (fx hint f fn) fn T D .returning H
   |some (.panic v,T,H,D)=>bZ P hint self (fx hint f fn) fn T D (.panicking v false) H
   |_=>none
   else none
  |none=>none
 |none=>none
abbrev Spec:=FuncId->List Value->IH->Option (End×IH)
def af:Spec:=fun _ _ _=>none
def cR (P:Program) (hint:Hint) (spec:Spec) (self:Self) (f:FuncId) (args:List Value) (H:IH):Option (End×IH):=
 match spec f args H with
 |some r=>some r
 |none=>eK P hint self f args H
def ev (P:Program) (hint:Hint) (spec:Spec):Nat->Self
 |0=>⟨fun _ _ _ _ _ _=>none,fun _ _ _=>none⟩
 |n+1=>⟨aH P (ev P hint spec n),cR P hint spec (ev P hint spec n)⟩
end
end Go.Iv
