/- The pure evaluator (the second part): calls, regions, code. -/
import Derived.Test.YteknbnkjelmfaaaGreatDoorGvBase
import Derived.Lib.ItoaNum
import Derived.Lib.SlTrimSet
import Derived.Lib.ValidU
import GoSem.PinnedTables
set_option linter.unusedSimpArgs false
set_option linter.unusedVariables false
namespace Go.Gv
open Go Go.Iv
noncomputable section
variable {β:Type}
structure fD (β:Type) where
 code:Nat->FI->Option Nat->Code->GE->GH->(X->GE->GH->Option β)->Option β
 call:FuncId->List TV->GH->(TV->GH->Option β)->Option β
 loop:Nat->Nat->Option Nat->Option β->GE->GH->(X->GE->GH->Option β)->Option β
def C6 (H:GH) (_:Nat):GH:=H
def Jv (H:GH) (_:Nat):GH:=H
def sQ (P:Program) (sh:cz) (H:GH) (t:TypeId) (r:Option TV) (K:TV->GH->Option β):Option β:=l6 P sh H t r K
def GL (P:Program) (sh:cz) (H:GH) (t:TypeId) (x k:TV) (ok:Bool) (K:TV->GH->Option β):Option β:=Dp P sh H t x k ok K
def vC (cm:Cm β) (P:Program) (H:GH) (t:TypeId) (m k v:TV) (K:TV->GH->Option β):Option β:=Cr cm P H t m k v K
def Ws (P:Program) (t:TypeId):Bool:=match P.underlying t with
 |some (.slice _)=>true
 |_=>false
def vZ (cm:Cm β) (P:Program) (_:cz) (H:GH) (t:TypeId) (a:TV) (K:TV->GH->Option β):Option β:=tv cm P H t a K
def UY:TV->Bool
 | .int _ _ | .byte _ | .bool _ | .str _=>true
 |_=>false
def Kp (cm:Cm β) (P:Program) (H:GH) (t:TypeId) (a v:TV) (K:TV->GH->Option β):Option β:=HW cm P H t a v K
def ji (cm:Cm β) (P:Program) (sh:cz) (H:GH) (t:TypeId) (x ix:TV) (K:TV->GH->Option β):Option β:=fJ cm P sh H t x ix K
def Pb (P:Program) (H:GH) (t:TypeId) (x:TV) (K:TV->GH->Option β):Option β:=R9 P H t x K
def mr (cm:Cm β) (P:Program) (sh:cz) (H:GH) (t:TypeId) (eq:Bool) (l c:TV) (K:TV->GH->Option β):Option β:=iE cm P sh H t eq l c K
def kh (P:Program) (sh:cz) (H:GH) (t:TypeId) (len:Nat) (ps:List (Nat×TV)) (K:TV->GH->Option β):Option β:=gp P sh H t len ps K
def xJ (fi:FI):List Tmp->List TV->GE->GE
 |t::ts,a::as,E=>xJ fi ts as (cN fi t a E)
 |_,_,E=>E
def IW (sf:fD β) (l:Nat) (args:List TV) (H:GH) (K:TV->GH->Option β):Option β:=
 match H.get l with
 |some (.loop bM .ready _ fi E ps dV body)=>
  bif Nat.beq args.length ps.length then
   sf.code bM fi (some l) dV (xJ fi ps args E) H fun x E1 H1=>match x with
    | .normal=>match H1.get l with
     |some (.loop fid1 .ready pd1 fi1 F1 ps1 asg1 body1)=>
      sf.code bM fi (some l) body E1 (H1.put l (.loop fid1 .busy pd1 fi1 F1 ps1 asg1 body1)) fun x _ H2=>
       match H2.get l with
       |some (.loop fid2 _ _ fi2 F2 ps2 asg2 body2)=>match x with
        | .normal=>K (.bool true) (H2.put l (.loop fid2 .ready none fi2 F2 ps2 asg2 body2))
        | .ret=>K (.bool false) (H2.put l (.loop fid2 .done (some .ret) fi2 F2 ps2 asg2 body2))
        | .exit id=>K (.bool false) (H2.put l (.loop fid2 .done (some (.exit id)) fi2 F2 ps2 asg2 body2))
        | .panic _=>none
       |_=>none
     |_=>none
    |_=>none
  else none
 |_=>none
def qU (c:UInt8) (s:List UInt8):Int:=match uB c s 0 with |some i=>(i:Int) |none=> -1
def CY (H:GH) (fn:Func) (args:List TV) (K:TV->GH->Option β):Option β:=
 if fn.origin != "" then none else
 if fn.name == "internal/abi.NoEscape" then
  match args with
  | [x]=>K x H
  |_=>none
 else if fn.name == "internal/bytealg.IndexByteString" then
  match args with
  | [.str s,.byte c]=>K (.int .i64 (qU c s)) H
  |_=>none
 else if fn.name == "internal/bytealg.CountString" then
  match args with
  | [.str s,.byte c]=>K (.int .i64 (Nu c s)) H
  |_=>none
 else none
def DG (P:Program) (sf:fD β) (H:GH) (f:FuncId) (args:List TV) (K:TV->GH->Option β):Option β:=
 match P.funcs[f]? with
 |some fn=>match fn.body with
  |none=>CY H fn args K
  |some _=>sf.call f args H K
 |none=>none
def mo (f:Int->Int->Int):IntKind->Int->List TV->Option TV
 |k,n,[]=>some (.int k n)
 |k,n,.int k' m::r=>if k=k' then mo f k (f n m) r else none
 |_,_,_=>none
def vm (H:GH) (f:Int->Int->Int) (args:List TV) (K:TV->GH->Option β):Option β:=
 match args with
 | .int k n::r=>match mo f k n r with
  |some v=>K v H
  |none=>none
 |_=>none
def oa (cm:Cm β) (H:GH) (x:TV) (K:TV->GH->Option β):Option β:=
 match x with
 | .raw (.slice none 0 0)=>K (.raw (.pointer none)) H
 | .all id=>match H.get id with
  |some (.arr _ _ xs _ _ em)=>match em with
   | .ex=>cm.Vf xs.isEmpty (K (.raw (.pointer none)) H) (K (.ng id 0 0) H)
   |_=>cm.fw (!xs.isEmpty) (K (.ng id 0 0) H)
  |_=>none
 |_=>none
def yW (cm:Cm β) (P:Program) (H:GH) (argTypes:Array TypeId) (p n:TV) (K:TV->GH->Option β):Option β:=
 match p,n with
 | .raw (.pointer none),.int .i64 n=>cm.fw (n==0) (K (.str []) H)
 | .ng id 0 0,.int .i64 n=>match H.get id,argTypes[0]? with
  |some (.arr et e xs _ false em),some pt=>match Sh.same e .byte with
   |some ⟨h⟩=>bif Nat.beq (P.cellsOf et) 1 &&pE P pt et then
     cm.fw (au 0 n &&au n xs.length &&au n roomy) (K (.str ((iR h xs:List UInt8).take n.toNat)) (H.put id (.arr et e xs false false em))) else none
   |none=>none
  |_,_=>none
 |_,_=>none
def He (cm:Cm β) (P:Program) (sh:cz) (H:GH) (argTypes:Array TypeId) (s x:TV) (K:TV->GH->Option β):Option β:=CQ cm P sh H argTypes s x K
def pC (cm:Cm β) (P:Program) (sh:cz) (H:GH) (b:Builtin) (argTypes:Array TypeId) (args:List TV) (K:TV->GH->Option β):Option β:=
 match b,args with
 | .append,[s,x]=>He cm P sh H argTypes s x K
 | .len,[x]=>match argTypes[0]? with
  |some t=>Pb P H t x K
  |none=>none
 | .max,args=>vm H (fun x y=>bif aX x y then y else x) args K
 | .min,args=>vm H (fun x y=>bif aX y x then y else x) args K
 | .unsafeSliceData,[x]=>oa cm H x K
 | .unsafeString,[p,n]=>bif argTypes[0]?.isSome then yW cm P H argTypes p n K else none
 |_,_=>none
def vw (cm:Cm β) (P:Program) (sh:cz) (sf:fD β) (Z:Operand->TV) (H:GH) (c:Call) (K:TV->GH->Option β):Option β:=
 match c.callee with
 | .builtin b=>pC cm P sh H b c.argTypes (c.args.toList.map Z) K
 | .value f=>match Z f with
  | .mI l=>IW sf l (c.args.toList.map Z) H K
  | .fn f first captured=>DG P sf H f (first++c.args.toList.map Z++captured) K
  |_=>none
 | .invoke _ _=>none
def Cc:Operand->Operand->Bool
 | .tmp a,.tmp b=>Nat.beq a b
 |_,_=>false
def Yg:Operand->Bool
 | .const _=>true
 |_=>false
def Q5 (P:Program) (op:BinOp) (t:TypeId) (x y:Operand) (a b:TV):Option Bool:=
 match P.underlying t,a,b with
 |some (.interface _),.raw .nilIface,.raw .nilIface=>bif Yg x ||Yg y then match op with
   | .eql=>some true
   | .neq=>some false
   |_=>none
  else none
 |_,_,_=>none
def ja (cm:Cm β) (P:Program) (sh:cz) (sf:fD β) (Z:Operand->TV) (H:GH) (o:Oper) (K:TV->GH->Option β):Option β:=
 match o.op with
 | .move x | .assign x=>K (Z x) H
 | .pick c a b=>Kr H (Z c) (Z a) (Z b) K
 | .alloc e=>vA P H e K
 | .box e x=>UC H e (Z x) K
 | .build t parts=>HU P H t (parts.toList.map fun p=>(p.1,Z p.2)) K
 | .buildSlice t len parts=>kh P sh H t len (parts.toList.map fun p=>(p.1,Z p.2)) K
 | .load t a=>vZ cm P sh H t (Z a) K
 | .store t a x=>Kp cm P H t (Z a) (Z x) K
 | .nilCheck x=>UN H (Z x) K
 | .binOp op t x y _=>match Q5 P op t x y (Z x) (Z y) with
  |some b=>K (.bool b) H
  |none=>RT cm P H op t (Z x) (Z y) K
 | .unOp op _ x=>WS H op (Z x) K
 | .convert src dst x=>qL P H src dst (Z x) K
 | .makeFunc (.func f) first captured=>K (.fn f (first.toList.map Z) (captured.toList.map Z)) H
 | .makeSlice t l c=>mr cm P sh H t (Cc l c) (Z l) (Z c) K
 | .slice t x lo hi mx=>ID cm P H t (Z x) (lo.map Z) (hi.map Z) (mx.map Z) K
 | .fieldAddr s x f=>iS P H s (Z x) f K
 | .field t x f=>C4 P H t (Z x) f K
 | .indexAddr t x ix=>ji cm P sh H t (Z x) (WQ (Z ix)) K
 | .index t x ix=>DT cm P H t (Z x) (WQ (Z ix)) K
 | .range t x=>I9 P H t (Z x) K
 | .makeMap t n=>sQ P sh H t (n.map Z) K
 | .lookup t x k ok=>GL P sh H t (Z x) (Z k) ok K
 | .mapUpdate t m k x=>vC cm P H t (Z m) (Z k) (Z x) K
 | .insert t m k x=>vC cm P H t (Z m) (Z k) (Z x) K
 | .next it true=>P0 cm H (Z it) K
 | .extract tp i=>pQ H (Z tp) i K
 | .call c=>vw cm P sh sf Z H c K
 |_=>none
def mi (cm:Cm β) (fi:FI) (ops:Array Oper) (o:Oper) (E:GE) (run skip:GE->Option β):Option β:=
 match o.guard with
 |none=>run E
 |some (j,want)=>match (ops[j]?).bind (·.dst) with
  |some d=>match fa fi E d with
   | .bool b=>cm.Vf b (bif want then run (cN fi d (.bool true) E) else skip (cN fi d (.bool true) E)) (bif want then skip (cN fi d (.bool false) E) else run (cN fi d (.bool false) E))
   | .raw v=>match v with
    | .bool _ | .chan _=>none
    |_=>skip E
   |_=>none
  |none=>none
def r9 (cm:Cm β) (P:Program) (sh:cz) (sf:fD β) (fi:FI) (ops:Array Oper):List Oper->GE->GH->(GE->GH->Option β)->Option β
 | [],E,H,K=>K E H
 |o::rest,E,H,K=>
  mi cm fi ops o E (fun E=>ja cm P sh sf (bZ fi E) H o fun v H=>r9 cm P sh sf fi ops rest (c8 fi E o.dst v) H K)
   (fun E=>r9 cm P sh sf fi ops rest (c8 fi E o.dst (.raw Go.undef)) H K)
def B7:List TV->Option (List UInt8)
 | []=>some []
 | .byte c::r=>match B7 r with
  |some l=>some (c::l)
  |none=>none
 |_=>none
def Rc (P:Program) (fi:FI) (E:GE) (o o2:Oper):Option (Tmp×Tmp×List UInt8):=
 match o.op,o2.op,o.dst,o2.dst,o.guard,o2.guard with
 | .buildSlice t len parts,.convert src dst (.tmp d'),some d,some d2,none,none=>
  bif Nat.beq d d' &&Nat.beq src dst &&Nat.beq src t &&Nat.blt d fi.nt then
   match P.underlying src,cK P t with
   |some (.slice e0),some (e,i)=>match P.underlying e0,zeroOf P e with
    |some (.int .u8),some z=>
     bif Nat.ble (len*(i.size+1)) (2^24) &&(parts.toList.map fun p=>(p.1,bZ fi E p.2)).all (fun p=>p.2.ok) &&Nat.beq z.cells.size i.size &&z.cells.toList.all gL &&Nat.beq i.size 1 then
      match ud (fun j=>some (j*i.size,i.size)) (S1 (z.cells.toList.map k9) len) (parts.toList.map fun p=>(p.1,bZ fi E p.2)) with
      |some cells=>match B7 cells with
       |some bs=>bif Nat.beq bs.length len then some (d,d2,bs) else none
       |none=>none
      |none=>none
     else none
    |_,_=>none
   |_,_=>none
  else none
 |_,_,_,_,_,_=>none
def vS (cm:Cm β) (P:Program) (sh:cz) (sf:fD β) (fi:FI) (ops:Array Oper):List Oper->GE->GH->(GE->GH->Option β)->Option β
 | [],E,H,K=>K E H
 | [o],E,H,K=>
  mi cm fi ops o E (fun E=>ja cm P sh sf (bZ fi E) H o fun v H=>K (c8 fi E o.dst v) H)
   (fun E=>K (c8 fi E o.dst (.raw Go.undef)) H)
 |o::o2::rest,E,H,K=>match Rc P fi E o o2 with
  |some (d,d2,bs)=>vS cm P sh sf fi ops rest (c8 fi (c8 fi E (some d) (.aT .byte bs (some false) false)) (some d2) (.aT .byte bs (some false) false)) H K
  |none=>mi cm fi ops o E (fun E=>ja cm P sh sf (bZ fi E) H o fun v H=>vS cm P sh sf fi ops (o2::rest) (c8 fi E o.dst v) H K)
   (fun E=>vS cm P sh sf fi ops (o2::rest) (c8 fi E o.dst (.raw Go.undef)) H K)
def gM:TV->Bool
 | .int _ _ | .byte _ | .str _ | .bool _=>true
 |_=>false
def Js:TV->Bool
 | .agg _=>true
 |t=>gM t
def km (Z:Operand->TV) (o:Oper):Option (List Nat×Bool):=
 match o.op with
 | .load _ a=>match Z a with
  | .ptr id _=>some ([id],false)
  | .ng id _ _=>some ([id],false)
  | .oe _=>some ([],true)
  |_=>none
 | .binOp _ _ x y _=>bif Js (Z x) &&Js (Z y) then some ([],false) else none
 | .lookup _ x _ _=>match Z x with
  | .mp id=>some ([id],false)
  | .raw (.map none)=>some ([],false)
  |_=>none
 | .call c=>match c.callee with
  | .builtin .len=>match c.args.toList with
   | [x]=>match Z x with
    | .str _ | .aT _ _ _ _ | .all _ | .own _ _ _=>some ([],false)
    | .raw (.slice none 0 0)=>some ([],false)
    | .mp id=>some ([id],false)
    |_=>none
   |_=>none
  | .builtin .max=>some ([],false)
  | .builtin .min=>some ([],false)
  | .builtin .unsafeSliceData=>some ([],false)
  |_=>none
 | .convert _ _ x=>match Z x with
  | .all id=>some ([id],false)
  | .own id _ _=>some ([id],false)
  | .int _ _ | .byte _ | .str _=>some ([],false)
  | .aT _ _ _ _=>some ([],true)
  |_=>none
 |_=>none
def lr:TV->Bool
 | .int _ _ | .byte _ | .bool _ | .str _ | .ptr _ _ | .ng _ _ _ | .oe _ | .aT _ _ _ _ | .all _ | .own _ _ _ | .mp _=>true
 | .raw v=>match v with
  | .bool _ | .int _ _ | .string _ | .pointer _ | .slice _ _ _ | .map _ | .nilFunc | .nilIface=>true
  |_=>false
 |_=>false
def J7:TV->Bool
 | .agg cs=>cs.all lr
 | .jD cs=>cs.all lr
 | .fn _ a c=>a.all lr &&c.all lr
 |t=>lr t
def LM (aY:List Nat):Operand->Bool
 | .tmp t=> !sK aY t
 |_=>false
def vv (Z:Operand->TV) (aY:List Nat) (o:Oper):Bool:=
 match o.op with
 | .move x | .assign x=>LM aY x
 | .indexAddr _ x ix=>LM aY x &&(match Z x,Z ix with
  | .aT _ _ _ _,.int _ _=>true
  |_,_=>false)
 | .fieldAddr _ x _=>LM aY x &&(match Z x with
  | .oe _=>true
  |_=>false)
 |_=>false
def vq (Z:Operand->TV) (aY:List Nat) (o:Oper):Bool:=
 match o.op with
 | .load _ a=>LM aY a &&(match Z a with
  | .oe _=>true
  |_=>false)
 |_=>false
def ju (b:Bool) (d:Option Tmp) (aY:List Nat):List Nat:=
 bif b then aY else match d with
  |some d=>d::aY
  |none=>aY
structure VK where
 i:Nat
 ids:List Nat
 st:List (Option Nat)
structure Td where
 E:GE
 H:GH
 bG:List (Nat×Option GH)
 reads:List VK
 aY:List Nat
 pn:List Nat
 po:List (Nat×Nat)
def ze:List (Option Nat)->List (Option Nat)->Bool
 | [],[]=>true
 |some a::r,some b::r'=>Nat.beq a b &&ze r r'
 |_,_=>false
def qo (H:GH) (ids:List Nat) (p:Bool) (m:Nat):List (Nat×Option GH)->Bool
 | []=>true
 |(c,q)::rest=>(m.testBit c ||(match q with
  |some Hc=> !p &&ze (ids.map Hc.br) (ids.map H.br)
  |none=>false)) &&qo H ids p m rest
def lQ (H:GH) (m:Nat):List VK->Bool
 | []=>true
 |r::rest=>(m.testBit r.i ||ze r.st (r.ids.map H.br)) &&lQ H m rest
def qy (m:Nat):List (Nat×Option GH)->Bool
 | []=>true
 |(c,_)::rest=>m.testBit c &&qy m rest
def QQ:Option bH->Bool
 |some (.map ..)=>true
 |_=>false
def jh (po:List (Nat×Nat)):List Nat->List Nat
 | []=> []
 |j::r=>match po.find? (fun p=>Nat.beq p.1 j) with
  |some p=>p.2::jh po r
  |none=>jh po r
def Ie (H:GH) (po:List (Nat×Nat)) (js:List Nat):Bool:=js.all fun j=>match po.find? (fun p=>Nat.beq p.1 j) with
 |some p=>QQ (H.get p.2)
 |none=>false
def P6 (Z:Operand->TV) (H:GH) (po:List (Nat×Nat)) (js:List Nat) (o:Oper):Bool:=
 match o.op with
 | .store _ a _=>match Z a with
  | .ptr id _=>match H.get id with
   |some (.cells _ _ true)=>Ie H po js
   |_=>false
  |_=>false
 |_=>false
def uq:List Nat->GH->GH
 | [],H=>H
 |k::r,H=>uq r (H.del k)
def sH (cm:Cm β) (P:Program) (sh:cz) (sf:fD β) (fi:FI) (ops:Array Oper) (i:Nat) (o:Oper) (m:Nat) (s:Td) (K:Td->Option β):Option β:=
 mi cm fi ops o s.E (fun E=>
  match kindOf P o with
  | .pure=>bif vv (bZ fi E) s.aY o then ja cm P sh sf (bZ fi E) s.H o fun v H=>K { s with E:=c8 fi E o.dst v,H:=H }
    else ja cm P sh sf (bZ fi E) s.H o fun v H=>K { s with E:=c8 fi E o.dst v,H:=H,aY:=ju (gM v) o.dst s.aY }
  | .read=>bif vq (bZ fi E) s.aY o then
     ja cm P sh sf (bZ fi E) s.H o fun v H=>bif J7 v then K { s with E:=c8 fi E o.dst v,H:=H,reads:=⟨i,[],[]⟩::s.reads } else none
    else match km (bZ fi E) o with
   |some (ids,p)=>bif (s.pn.isEmpty ||(ids.isEmpty && !p)) &&qo s.H ids p m s.bG then
     ja cm P sh sf (bZ fi E) s.H o fun v H=>bif J7 v then K { s with E:=c8 fi E o.dst v,H:=H,reads:=⟨i,ids,ids.map s.H.br⟩::s.reads,aY:=ju (gM v) o.dst s.aY } else none
    else none
   |none=>none
  | .fresh=>match o.op with
   | .buildSlice _ _ _=>ja cm P sh sf (bZ fi E) s.H o fun v H=>K { s with E:=c8 fi E o.dst v,H:=H,aY:=ju (gM v) o.dst s.aY,pn:=i::s.pn }
   | .alloc _=>ja cm P sh sf (bZ fi E) s.H o fun v H=>K { s with E:=c8 fi E o.dst v,H:=H,aY:=ju (gM v) o.dst s.aY,pn:=i::s.pn }
   | .makeSlice _ _ _=>ja cm P sh sf (bZ fi E) s.H o fun v H=>K { s with E:=c8 fi E o.dst v,H:=H,aY:=ju (gM v) o.dst s.aY,pn:=i::s.pn }
   | .makeMap _ _=>ja cm P sh sf (bZ fi E) s.H o fun v H=>K { s with E:=c8 fi E o.dst v,H:=H,aY:=ju (gM v) o.dst s.aY,pn:=i::s.pn,po:=(i,s.H.n)::s.po }
   |_=>none
  | .chain=>bif qy m s.bG then
    bif s.pn.all (fun j=>m.testBit j) then
    ja cm P sh sf (bZ fi E) s.H o fun v H=>
     bif lQ H m s.reads then K { E:=c8 fi E o.dst v,H:=H,bG:=(i,bif s.pn.isEmpty then some s.H else none)::s.bG,reads:=s.reads,aY:=ju (gM v) o.dst s.aY,pn:= [],po:=s.po } else none
    else bif P6 (bZ fi E) s.H s.po (s.pn.filter fun j=> !m.testBit j) o then
    ja cm P sh sf (bZ fi E) s.H o fun v H=>
     bif Ie H s.po (s.pn.filter fun j=> !m.testBit j) &&lQ (uq (jh s.po (s.pn.filter fun j=> !m.testBit j)) H) m s.reads then K { E:=c8 fi E o.dst v,H:=H,bG:=(i,none)::s.bG,reads:=s.reads,aY:=ju (gM v) o.dst s.aY,pn:=s.pn.filter fun j=> !m.testBit j,po:=s.po } else none
    else none
   else none)
  (fun E=>K { s with E:=c8 fi E o.dst (.raw Go.undef) })
def qY (cm:Cm β) (P:Program) (sh:cz) (sf:fD β) (fi:FI) (ops:Array Oper):List Oper->Nat->List Nat->Td->(Td->Option β)->Option β
 | [],_,_,s,K=>K s
 |_::_,_,[],_,_=>none
 |o::rest,i,m::ms,s,K=>sH cm P sh sf fi ops i o m s fun s=>qY cm P sh sf fi ops rest (i+1) ms s K
def Py (cm:Cm β) (P:Program) (sh:cz) (sf:fD β) (fi:FI) (ops:Array Oper) (E:GE) (H:GH) (K:GE->GH->Option β):Option β:=
 bif jT ops (cJ ops.toList []) then
  qY cm P sh sf fi ops ops.toList 0 (cJ ops.toList []) ⟨E,H,[],[],[],[],[]⟩ fun s=>K s.E s.H
 else none
def dp:Code->Nat
 | .region id _ _=>id
 | .seq a _=>dp a
 | .block _ c=>dp c
 | .scope c=>dp c
 | .loop c=>dp c
 |_=>0
def quiet (P:Program) (sh:cz) (o:Oper):Bool:=
 match o.op with
 | .move _ | .assign _ | .pick .. | .binOp .. | .unOp .. | .index .. | .field .. | .fieldAddr .. | .indexAddr .. | .extract .. =>true
 | .load t _=>sh.RH.isEmpty || !Ws P t
 | .convert src _ _=>match P.underlying src with
  |some (.int _)=>true
  |_=>false
 | .call c=>match c.callee with
  | .builtin .len=>true
  |_=>false
 |_=>false
def EI (fi:FI):List Oper->List Tmp
 | []=> []
 |o::r=>match o.dst with
  |some d=>match cls fi d with
   | .loc=>d::EI fi r
   |_=>EI fi r
  |none=>EI fi r
def QJ (P:Program) (sh:cz) (fi:FI) (ops:Array Oper):Option Tmp:=
 bif ops.toList.any (fun o=>o.guard.isSome) &&ops.toList.all (quiet P sh) then match EI fi ops.toList with
  | [d]=>some d
  | []=>match ops.toList.getLast?.bind (·.dst) with
   |some d=>match cls fi d with
    | .tmp=>some d
    |_=>none
   |none=>none
  |_=>none
 else none
def yb:TV->Option Bool
 | .bool b=>some b
 |_=>none
def K0 (fi:FI) (c:Operand) (b:Bool) (E:GE):GE:=match c with
 | .tmp t=>cN fi t (.bool b) E
 |_=>E
def DH:fD β:=⟨fun _ _ _ _ _ _ _=>none,fun _ _ _ _=>none,fun _ _ _ d _ _ _=>d⟩
def gC (cx:Cx β) (P:Program) (sh:cz) (sf:fD β) (bM:Nat) (fi:FI) (ro:Option Nat):Code->GE->GH->(X->GE->GH->Option β)->Option β
 | .skip,E,H,K=>K .normal E H
 | .region _ ops false,E,H,K=>match QJ P sh fi ops with
  |some d=>cx.jn (fun cm=>r9 cm P sh DH fi ops ops.toList E.reset H fun E _=>yb (fa fi E d)) fun b=>K .normal (cN fi d (.bool b) E.reset) H
  |none=>vS cx.cm P sh sf fi ops ops.toList E.reset H fun E H=>K .normal E H
 | .region _ ops true,E,H,K=>Py cx.cm P sh sf fi ops E.reset H fun E H=>K .normal E H
 | .seq a b,E,H,K=>gC cx P sh sf bM fi ro a E H fun x E H=>match x with
  | .normal=>gC cx P sh sf bM fi ro b E H K
  |x=>K x E H
 | .cond c a b,E,H,K=>match bZ fi E c with
  | .bool t=>cx.cm.Vf t (gC cx P sh sf bM fi ro a (K0 fi c true E) H K) (gC cx P sh sf bM fi ro b (K0 fi c false E) H K)
  |_=>none
 | .block id c,E,H,K=>gC cx P sh sf bM fi ro c E H fun x E H=>match x with
  | .exit j=>bif Nat.beq j id then K .normal E H else K (.exit j) E H
  |x=>K x E H
 | .loop c,E,H,K=>sf.loop bM (dp c) ro (gC cx P sh sf bM fi ro c E H fun x E H=>match x with
   | .normal=>sf.code bM fi ro (.loop c) E H K
   |x=>K x E H) E H K
 | .rangeFunc f ps dV body,E,H,K=>
  bif (match ro with
   |none=>true
   |some l=>match H.get l with
    |some (.loop ..)=>true
    |_=>false) then
   match bZ fi E f with
   | .fn g first captured=>
    sf.call g (first++ [TV.mI H.n]++captured) (H.new (.loop bM .ready none fi E ps.toList dV body)) fun _ H1=>
     match H1.get H.n with
     |some (.loop bM st pd fi2 E2 ps dV body)=>
      bif st==LoopState.busy then none else
      match pd with
      |none=>K .normal E (H1.put H.n (.loop bM .exhausted pd fi2 E2 ps dV body))
      |some .ret=>K .ret E (H1.put H.n (.loop bM .exhausted pd fi2 E2 ps dV body))
      |some (.exit id)=>K (.exit id) E (H1.put H.n (.loop bM .exhausted pd fi2 E2 ps dV body))
      |_=>none
     |_=>none
   |_=>none
  else none
 | .exit id,E,H,K=>K (.exit id) E H
 | .scope c,E,H,K=>gC cx P sh sf bM fi ro c E H K
 | .label _,E,H,K=>K .normal E H
 | .goto _,_,_,_=>none
 | .ret,E,H,K=>K .ret E H
 | .refuse _,_,_,_=>none
def Tx (P:Program) (fi:FI) (E:GE) (H:GH):ResultVar->Option TV
 | .tmp t=>some (fa fi E t)
 | .cell a t=>match fa fi E a with
  | .ptr id off=>match H.get id with
   |some (.cells _ cs _)=>bif Nat.ble off cs.length then fO P t (cs.drop off) else none
   |_=>none
  |_=>none
def xz (P:Program) (fi:FI) (E:GE) (H:GH):List ResultVar->Option (List TV)
 | []=>some []
 |r::rs=>match Tx P fi E H r,xz P fi E H rs with
  |some v,some vs=>some (v::vs)
  |_,_=>none
def Hf:Nat->List TV->IP
 |_,[]=> .e
 |i,v::r=> .c i v (Hf (i+1) r)
def AZ (cx:Cx β) (P:Program) (sh:cz) (hint:Hint) (sf:fD β) (f:FuncId) (args:List TV) (H:GH) (K:TV->GH->Option β):Option β:=
 match P.funcs[f]? with
 |some fn=>match fn.body with
  |some c=>bif Nat.ble args.length fn.ntmps then
    gC cx P sh sf f (gJ hint f fn) none c ⟨Hf 0 args,.e⟩ H fun x E H=>match x with
     | .normal | .ret=>match xz P (gJ hint f fn) E H fn.results.toList with
      |some [v]=>K v H
      |some vs=>K (.jD vs) H
      |none=>none
     |_=>none
   else none
  |none=>none
 |none=>none
structure tG (β:Type) where
 call:FuncId->Option (Nat->List TV->GH->(TV->GH->Option β)->Option β)
 loop:Nat->Nat->Option Nat->Option (Nat->GE->GH->(X->GE->GH->Option β)->Option (Option β))
def iW:Nat:=1048576
def nv:List Nat->FuncId->Option (Nat×Nat)
 |k::f'::g::r,f=>bif Nat.beq f f' then some (k,g) else nv r f
 |_,_=>none
def lE:List Int:= [1,10,100,1000,10000,100000,1000000,10000000,100000000,1000000000,10000000000,100000000000,1000000000000,10000000000000,100000000000000,1000000000000000,10000000000000000,100000000000000000,1000000000000000000,10000000000000000000]
def Ji (n:Int):Bool:=au (-9223372036854775808) n &&au n 9223372036854775807
def DW (I:IH) (g:Nat) (vs:List Value):Prop:=∃ cs et fz ex sd,I.get g=some (.cells cs et fz ex sd)/\ex=true/\cs.length=vs.length/\∀ (i:Nat) (v:Value),vs[i]? =some v->cs[i]? =some v
def oH (cs:List UInt8):Bool:=Nat.ble 2 cs.length &&Nat.ble cs.length 4294967280 &&cs.all fun c=>Nat.blt c.toNat 128
def sy:List UInt8:=Go.Pinned.utf8FirstZ.map UInt8.ofNat
def Nc:List (UInt8×UInt8):= [(128,191),(160,191),(128,159),(144,191),(128,143),(0,0),(0,0),(0,0),(0,0),(0,0),(0,0),(0,0),(0,0),(0,0),(0,0),(0,0)]
def tM (c:UInt8):Value:= .int .u8 c.toNat
open Classical in
def jc (k g:Nat) (args:List Value) (I:IH):Option Value:=
 match k,args with
 |0,[]=>some (.bool true)
 |1,[.int .i64 n]=>if Ji n=true/\g<bK/\DW I g (lE.map fun z=> .int .u64 z) then some (.string (ba (Lib.itoa n))) else none
 |2,[.string s,.string cs]=>bif oH (bl cs) then some (.string (ba (Lib.trimLeftS (bl s) (bl cs)))) else none
 |3,[.string s]=>if Nat.ble (bl s).length 9223372036854775807=true/\(g / 1000<bK/\g%1000<bK)/\DW I (g / 1000) (sy.map tM)/\DW I (g%1000) (Nc.flatMap fun p=> [tM p.1,tM p.2]) then some (.bool (Lib.validD (bl s))) else none
 |_,_=>none
def KT (k g:Nat) (args:List Value) (I:IH):Option (Iv.End×IH):=(jc k g args I).map fun v=>(.returned v,I)
def cD (hint:Hint):Iv.Spec:=fun f args I=>match nv (hint iW) f with
 |some (k,g)=>KT k g args I
 |none=>none
def UW (sh:cz) (g:Nat):Bool:=
 match sh.tb g with
 |some ⟨.int .u64,xs⟩=>(xs:List Int)==lE
 |_=>false
def Wm (sh:cz) (g1 g2:Nat):Bool:=
 (match sh.tb g1 with
 |some ⟨.byte,xs⟩=>(xs:List UInt8)==sy
 |_=>false) &&(match sh.tb g2 with
 |some ⟨.cons .byte .byte,ys⟩=>(ys:List (UInt8×UInt8))==Nc
 |_=>false)
def A1 (cm:Cm β) (sh:cz) (k g:Nat) (args:List TV) (H:GH) (K:TV->GH->Option β):Option (Option β):=
 match k,args with
 |0,[]=>some (K (.bool true) H)
 |1,[.int .i64 n]=>some (bif Nat.blt g bK &&UW sh g then cm.fw (Ji n) (K (.str (Lib.itoa n)) H) else none)
 |2,[.str s,.str cs]=>bif oH cs then some (K (.str (Lib.trimLeftS s cs)) H) else none
 |3,[.str s]=>some (bif Nat.blt (g / 1000) bK &&(Nat.blt (g%1000) bK &&Wm sh (g / 1000) (g%1000)) then cm.fw (Nat.ble s.length 9223372036854775807) (K (.bool (Lib.validD s)) H) else none)
 |_,_=>some none
def OC:Nat:=1048577
def FC:Nat:=1048578
def PK:List Nat->Nat->Nat->Bool
 |a::b::r,x,y=>bif Nat.beq a x &&Nat.beq b y then true else PK r x y
 |_,_,_=>false
def gv (cx:Cx β) (P:Program) (sh:cz) (hint:Hint) (hk:tG β):Nat->fD β
 |0=>⟨fun _ _ _ _ _ _ _=>none,fun _ _ _ _=>none,fun bM r ro d E H K=>bif PK (hint FC) bM r then none else match hk.loop bM r ro with
   |some f=>match f 0 E H K with
    |some r=>r
    |none=>d
   |none=>d⟩
 |n+1=>⟨gC cx P sh (gv cx P sh hint hk n),fun f args H K=>match nv (hint iW) f with
   |some (k,g)=>match A1 cx.cm sh k g args H K with
    |some r=>r
    |none=>match hk.call f with
     |some h=>h n args H K
     |none=>AZ cx P sh hint (gv cx P sh hint hk n) f args H K
   |none=>bif sK (hint OC) f then none else match hk.call f with
   |some h=>h n args H K
   |none=>AZ cx P sh hint (gv cx P sh hint hk n) f args H K,
  fun bM r ro d E H K=>bif PK (hint FC) bM r then none else match hk.loop bM r ro with
   |some f=>match f (n+1) E H K with
    |some r=>r
    |none=>d
   |none=>d⟩
end
end Go.Gv
