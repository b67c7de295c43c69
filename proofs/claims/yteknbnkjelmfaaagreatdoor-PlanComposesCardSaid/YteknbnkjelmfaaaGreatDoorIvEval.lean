/- The ideal evaluator (the second part): regions, code, calls. -/
import Derived.Test.YteknbnkjelmfaaaGreatDoorIvBase
import Derived.OrdersIn
set_option linter.unusedSimpArgs false
set_option linter.unusedVariables false
namespace Go.Iv
open Go
noncomputable section
def cg (fi:FI) (ops:Array Oper) (E:En) (o:Oper):Option Bool:=
 match o.guard with
 |none=>some true
 |some (j,want)=>match (ops[j]?).bind (·.dst) with
  |some d=>match ft fi E d with
   | .bool b=>some (b==want)
   | .chan _=>none
   |_=>some false
  |none=>some false
def gE (P:Program) (self:Self) (fi:FI) (ro:Option Nat) (ops:Array Oper):List Oper->En->IH->List Deferred->qx
 | [],T,H,D=>some (.normal,T,H,D)
 |o::rest,T,H,D=>
  match cg fi ops T o with
  |some true=>
   match aG P self (eQ fi T) H o with
   |some (.val v H)=>gE P self fi ro ops rest (dT fi T o.dst v) H D
   |some (.skip H)=>gE P self fi ro ops rest (dT fi T o.dst undef) H D
   |some (.defer d H)=>if ro.isNone then gE P self fi ro ops rest (dT fi T o.dst undef) H (d::D) else none
   |some (.panic v H)=>some (.panic v,T,H,D)
   |none=>none
  |some false=>gE P self fi ro ops rest (dT fi T o.dst undef) H D
  |none=>none
def kT:Value->Value->Bool
 | .bool a,.bool b=>a==b
 | .int k a,.int k' b=>k==k' &&a==b
 | .string a,.string b=>bl a==bl b
 | .pointer a,.pointer b=>a==b
 | .slice a l c,.slice a' l' c'=>a==a' &&l==l' &&c==c'
 | .map a,.map b=>a==b
 | .nilFunc,.nilFunc=>true
 | .nilIface,.nilIface=>true
 |_,_=>false
def lX:List Value->List Value->Bool
 | [],[]=>true
 |a::x,b::y=>kT a b &&lX x y
 |_,_=>false
def l8:Value->Value->Bool
 | .agg a,.agg b=>lX a.toList b.toList
 | .tuple a,.tuple b=>lX a.toList b.toList
 | .func fn a c,.func fn' a' c'=>fn==fn' &&lX a.toList a'.toList &&lX c.toList c'.toList
 |a,b=>kT a b
inductive Kind where
 |pure |read |fresh |chain
 deriving DecidableEq
def kindOf (P:Program) (o:Oper):Kind:=
 match o.op with
 | .move _ | .assign _ | .pick .. | .nilCheck _ | .unOp .. | .fieldAddr .. | .field .. | .indexAddr .. | .index .. | .extract .. | .slice .. | .makeFunc .. | .makeInterface .. | .build .. | .typeAssert .. => .pure
 | .load .. | .lookup .. | .binOp .. => .read
 | .call { callee:= .builtin b,.. }=>match b with
  | .len | .cap | .max | .min | .unsafeSliceData=> .read
  |_=> .chain
 | .convert src dst _=>match P.underlying src,P.underlying dst with
  |some .string,some (.slice _)=> .fresh
  |some (.slice _),some (.slice _)=> .chain
  |_,_=> .read
 | .alloc _ | .box .. | .buildSlice .. | .makeSlice .. | .makeMap .. => .fresh
 |_=> .chain
def di:List Oper->List Nat->List Nat
 | [],acc=>acc
 |o::rest,acc=>di rest (acc++ [o.after.toList.foldl (fun s e=>if Region.binds .any e then s |||2^e.on |||acc.getD e.on 0 else s) 0])
structure Rd where
 i:Nat
 o:Oper
 T:En
 v:Value
structure DS where
 T:En
 H:IH
 bq:List (Nat×bN)
 cw:List (Nat×IH)
 reads:List Rd
def aq (n0:Nat):List (Nat×bN)->IH->IH
 | [],H=>H
 |(i,o)::r,H=>(aq n0 r H).put (n0+i) o
def BP (P:Program) (self:Self) (fi:FI) (T:En) (H:IH) (o:Oper):Option Value:=
 match aG P self (eQ fi T) H o with
 |some (.val v _)=>some v
 |_=>none
def sameAt (P:Program) (self:Self) (fi:FI) (T:En) (H:IH) (o:Oper) (v:Value):Bool:=
 match BP P self fi T H o with
 |some v'=>l8 v v'
 |none=>false
def gU (P:Program) (self:Self) (fi:FI) (T:En) (o:Oper) (v:Value) (m:Nat):List (Nat×IH)->Bool
 | []=>true
 |(c,H)::rest=>(m.testBit c ||sameAt P self fi T H o v) &&gU P self fi T o v m rest
def jb (P:Program) (self:Self) (fi:FI) (H:IH) (m:Nat):List Rd->Bool
 | []=>true
 |r::rest=>(m.testBit r.i ||sameAt P self fi r.T H r.o r.v) &&jb P self fi H m rest
def chained (m:Nat):List (Nat×IH)->Bool
 | []=>true
 |(c,_)::rest=>m.testBit c &&chained m rest
inductive DR where
 |done (s:DS)
 |panic (v:Value) (H:IH)
 |fail
def fB (P:Program) (self:Self) (fi:FI) (ops:Array Oper) (n0 i:Nat) (o:Oper) (m:Nat) (s:DS):DR:=
 match cg fi ops s.T o with
 |some true=>
  match kindOf P o with
  | .pure=>match aG P self (eQ fi s.T) s.H o with
   |some (.val v _)=> .done { s with T:=dT fi s.T o.dst v }
   |_=> .fail
  | .read=>match aG P self (eQ fi s.T) s.H o with
   |some (.val v _)=>if gU P self fi s.T o v m s.cw then
     .done { s with T:=dT fi s.T o.dst v,reads:=⟨i,o,s.T,v⟩::s.reads } else .fail
   |_=> .fail
  | .fresh=>match aG P self (eQ fi s.T) { s.H with n:=n0+i } o with
   |some (.val v H')=>match H'.get (n0+i) with
    |some ob=> .done { s with T:=dT fi s.T o.dst v,bq:=(i,ob)::s.bq }
    |none=> .fail
   |_=> .fail
  | .chain=>
   if chained m s.cw then
    match aG P self (eQ fi s.T) (aq n0 (s.bq.filter fun x=>m.testBit x.1) s.H) o with
    |some (.val v H')=>if jb P self fi H' m s.reads then
      .done { T:=dT fi s.T o.dst v,H:=H',bq:=s.bq.filter fun x=> !m.testBit x.1,cw:=(i,s.H)::s.cw,reads:=s.reads } else .fail
    |some (.skip H')=>if jb P self fi H' m s.reads then
      .done { T:=dT fi s.T o.dst undef,H:=H',bq:=s.bq.filter fun x=> !m.testBit x.1,cw:=(i,s.H)::s.cw,reads:=s.reads } else .fail
    |some (.panic v H')=> .panic v H'
    |_=> .fail
   else .fail
 |some false=> .done { s with T:=dT fi s.T o.dst undef }
 |none=> .fail
def aS (P:Program) (self:Self) (fi:FI) (ops:Array Oper) (n0:Nat):List Oper->Nat->List Nat->DS->Option (Nat×Value×IH)->DR
 | [],_,_,s,none=> .done s
 | [],_,_,_,some (_,v,H)=> .panic v H
 |_::_,_,[],_,_=> .fail
 |o::rest,i,m::ms,s,none=>
  match fB P self fi ops n0 i o m s with
  | .done s'=>aS P self fi ops n0 rest (i+1) ms s' none
  | .panic v H=>aS P self fi ops n0 rest (i+1) ms { s with cw:=(i,s.H)::s.cw } (some (i,v,H))
  | .fail=> .fail
 |o::rest,i,m::ms,s,some (c,v,H)=>
  if m.testBit c then aS P self fi ops n0 rest (i+1) ms s (some (c,v,H)) else
  match fB P self fi ops n0 i o m s with
  | .done s'=>aS P self fi ops n0 rest (i+1) ms s' (some (c,v,H))
  |_=> .fail
def gY (fi:FI):List Oper->En->En
 | [],T=>T
 |o::rest,T=>gY fi rest (dT fi T o.dst aO)
def pW (ops:Array Oper) (ms:List Nat):Bool:=
 (List.range ops.size).all fun i=>
  match ops[i]?,ms[i]? with
  |some o,some m=>o.after.toList.all (fun e=> !Region.binds .any e ||decide (e.on<i)) &&(List.range ops.size).all fun j=>
    match ops[j]? with
    |some oj=>match oj.dst with
     |none=>true
     |some t=>(j==i ||o.dst !=some t) &&(m.testBit j ||(ms.getD j 0).testBit i || !(o.looksAt ops).contains t)
    |none=>true
  |_,_=>false
def iR (P:Program) (ops:Array Oper):Nat:=if ops.toList.any (fun o=>decide (kindOf P o= .fresh)) then ops.size else 0
def rn (P:Program) (self:Self) (fi:FI) (ops:Array Oper) (T:En) (H:IH) (D:List Deferred):qx:=
 let ms:=di ops.toList []
 if pW ops ms then
  match aS P self fi ops H.n ops.toList 0 ms ⟨T,{ H with n:=H.n+iR P ops },[],[],[]⟩ none with
  | .done s=>some (.normal,s.T,aq H.n s.bq s.H,D)
  | .panic v H=>some (.panic v,gY fi ops.toList T,H,D)
  | .fail=>none
 else none
def qG (H:IH):Option Nat->Bool
 |none=>true
 |some l=>match H.get l with
  |some (.loop ..)=>true
  |_=>false
def aK (P:Program) (self:Self) (fi:FI) (ro:Option Nat):Code->En->IH->List Deferred->qx
 | .skip,T,H,D=>some (.normal,T,H,D)
 | .region _ ops false,T,H,D=>gE P self fi ro ops ops.toList T.reset H D
 | .region _ ops true,T,H,D=>rn P self fi ops T.reset H D
 | .seq a b,T,H,D=>match aK P self fi ro a T H D with
  |some (.normal,T,H,D)=>aK P self fi ro b T H D
  |r=>r
 | .cond c a b,T,H,D=>match eQ fi T c with
  | .bool true=>aK P self fi ro a T H D
  | .bool false=>aK P self fi ro b T H D
  |_=>none
 | .block id c,T,H,D=>match aK P self fi ro c T H D with
  |some (.exit j,T,H,D)=>if j=id then some (.normal,T,H,D) else some (.exit j,T,H,D)
  |r=>r
 | .loop c,T,H,D=>match aK P self fi ro c T H D with
  |some (.normal,T,H,D)=>self.code fi ro (.loop c) T H D
  |r=>r
 | .rangeFunc f ps eo body,T,H,D=>
  if !qG H ro then none else
  match eQ fi T f with
  | .func (.func g) first captured=>
   let l:Nat:=match ro with |none=>H.n+1 |some _=>H.n
   let D:List Deferred:=match ro with |none=>{ target:= .collected H.n,args:=#[] }::D |some _=>D
   let H:IH:=match ro with |none=>H.new (.mg true) |some _=>H
   let H:=H.new (.loop .ready none fi T ps.toList eo body)
   match self.call g (first.toList++ [Value.func (.yield l) #[] #[]]++captured.toList) H with
   |some (.returned _,H)=>
    match H.get l with
    |some (.loop st pd fi2 E2 ps eo body)=>
     if st==LoopState.busy then none else
     let H:=H.put l (.loop .exhausted pd fi2 E2 ps eo body)
     match pd with
     |none=>some (.normal,T,H,D)
     |some .ret=>some (.ret,T,H,D)
     |some (.exit id)=>some (.exit id,T,H,D)
     |_=>none
    |_=>none
   |some (.panicked v,H)=>some (.panic v,T,H,D)
   |none=>none
  |_=>none
 | .exit id,T,H,D=>some (.exit id,T,H,D)
 | .scope c,T,H,D=>aK P self fi ro c T H D
 | .label _,T,H,D=>some (.normal,T,H,D)
 | .goto _,_,_,_=>none
 | .ret,T,H,D=>some (.ret,T,H,D)
 | .refuse _,_,_,_=>none
def gq (P:Program) (fi:FI) (T:En) (H:IH):ResultVar->Option Value
 | .tmp t=>some (ft fi T t)
 | .cell a t=>match ft fi T a with
  | .pointer (some ⟨b,off,none⟩)=>l7 P H t b off
  |_=>none
def fN (P:Program) (fi:FI) (fn:Func) (T:En) (H:IH):Option Value:=
 match fn.results.toList.mapM (gq P fi T H) with
 |some [v]=>some v
 |some vs=>some (.tuple ⟨vs⟩)
 |none=>none
inductive Mode where
 |returning
 |panicking (v:Value) (recovered:Bool)
def calls (ops:Array Oper):Bool:=ops.toList.any fun o=>match o.op with | .call { callee:= .builtin _,.. }=>false | .call _=>true |_=>false
def uR:Nat->List Value->AL
 |_,[]=> .e
 |i,v::r=> .c i v (uR (i+1) r)
def mK (args:List Value):En:=⟨uR 0 args,.e⟩
abbrev Hint:=FuncId->List Nat
def pE (hint:Hint) (f:FuncId) (fn:Func):FI:=⟨fn.ntmps,hint f,hint (2097152+f)⟩
def fits (fn:Func) (args:List Value):Bool:=Nat.ble args.length fn.ntmps
def ew (P:Program) (hint:Hint) (self:Self) (fi:FI) (fn:Func) (T:En):List Deferred->Mode->IH->Option (End×IH)
 | [],.returning,H=>match fN P fi fn T H with
  |some v=>some (.returned v,H)
  |none=>none
 | [],.panicking v false,H=>some (.panicked v,H)
 | [],.panicking _ true,_=>none
 |d::ds,u,H=>match d.target with
  | .collected r=>match H.get r with
   |some (.mg true)=>if ep<=r then ew P hint self fi fn T ds u (H.put r (.mg false)) else none
   |_=>none
  |_=>none
def cX (P:Program) (hint:Hint) (self:Self) (f:FuncId) (args:List Value) (H:IH):Option (End×IH):=
 match P.funcs[f]? with
 |some fn=>match fn.body with
  |some c=>if fits fn args then match aK P self (pE hint f fn) none c (mK args) H [] with
   |some (.normal,T,H,D) |some (.ret,T,H,D)=>ew P hint self (pE hint f fn) fn T D .returning H
   |some (.panic v,T,H,D)=>ew P hint self (pE hint f fn) fn T D (.panicking v false) H
   |_=>none
   else none
  |none=>none
 |none=>none
abbrev Spec:=FuncId->List Value->IH->Option (End×IH)
def dQ (P:Program) (hint:Hint) (spec:Spec) (self:Self) (f:FuncId) (args:List Value) (H:IH):Option (End×IH):=
 match spec f args H with
 |some r=>some r
 |none=>cX P hint self f args H
def ev (P:Program) (hint:Hint) (spec:Spec):Nat->Self
 |0=>⟨fun _ _ _ _ _ _=>none,fun _ _ _=>none⟩
 |n+1=>⟨aK P (ev P hint spec n),dQ P hint spec (ev P hint spec n)⟩
end
end Go.Iv
