/- The pure evaluator (the second part): calls, regions, code. -/
import Derived.Test.YtdelfjdjenlaiaaGreatDoorGvBase
import Derived.Lib.ItoaNum
import Derived.Lib.SlTrimSet
import Derived.Lib.ValidU
import GoSem.PinnedTables
set_option linter.unusedSimpArgs false
set_option linter.unusedVariables false
namespace Go.Gv
open Go Go.Iv
noncomputable section
variable {β:Type}
structure eF (β:Type) where
 code:Nat->FI->Option Nat->Code->GE->GH->(X->GE->GH->Option β)->Option β
 call:FuncId->List TV->GH->(TV->GH->Option β)->Option β
 loop:Nat->Nat->Option Nat->Option β->GE->GH->(X->GE->GH->Option β)->Option β
def oD (H:GH) (id:Nat):GH:=match H.get id with
 |some (.nest et e no net ne xs em (some (i,n,x)))=>match H.get n with
  |some (.arr net' ne' ys true false .ex)=>bif Nat.beq net' net then (match Sh.same ne' ne with
    |some ⟨h⟩=>(H.del n).put id (.nest et e no net ne (xs.set i (du e no ne x (fG h ys))) em none)
    |none=>H) else H
  |_=>H
 |_=>H
def Cp (cm:Cm β) (P:Program) (H:GH) (t:TypeId) (id i off:Nat) (K:TV->GH->Option β):Option β:=
 match H.get id with
 |some (.nest _ e no _ _ xs _ _)=>bif Nat.ble off e.sz then cm.opt xs[i]? fun x=>match fF P t (((e.de x).set no .undef).drop off) with
   |some v=>K v H
   |none=>none
  else none
 |_=>none
def Wk (cm:Cm β) (H:GH) (id i off:Nat) (K:TV->GH->Option β):Option β:=
 match H.get id with
 |some (.nest et e no net ne xs em none)=>bif Nat.beq off no then cm.opt xs[i]? fun x=>
   K (.all H.n) ((H.put id (.nest et e no net ne xs em (some (i,H.n,x)))).new (.arr net ne (aY e no ne x) true false .ex))
  else none
 |_=>none
def CL (H:GH) (id:Nat):Option Nat:=match H.get id with
 |some (.nest _ _ no _ _ _ _ _)=>some no
 |_=>none
def Jz (H:GH) (_:Nat):GH:=H
def sw (P:Program) (sh:cA) (H:GH) (t:TypeId) (r:Option TV) (K:TV->GH->Option β):Option β:=mH P sh H t r K
def Fs (P:Program) (sh:cA) (H:GH) (t:TypeId) (x k:TV) (ok:Bool) (K:TV->GH->Option β):Option β:=Ci P sh H t x k ok K
def yh (cm:Cm β) (P:Program) (H:GH) (t:TypeId) (m k v:TV) (K:TV->GH->Option β):Option β:=BR cm P H t m k v K
def O5 (P:Program) (t:TypeId):Bool:=match P.underlying t with
 |some (.slice _)=>true
 |_=>false
def mc (cm:Cm β) (P:Program) (sh:cA) (H:GH) (t:TypeId) (a:TV) (K:TV->GH->Option β):Option β:=
 match sh.gZ with
 | []=>nB cm P H t a K
 |_=>match a with
  | .jd id i off=>match CL H id with
   |some no=>bif O5 P t &&Nat.beq off no then match eK P t with
     |some false=>Wk cm (oD H id) id i off K
     |_=>none
    else Cp cm P H t id i off K
   |none=>nB cm P H t a K
  |_=>nB cm P H t a K
def PK (cm:Cm β) (H:GH) (id i m:Nat) (K:TV->GH->Option β):Option β:=
 match H.get id,H.get m with
 |some (.nest et e no net ne xs em ho),some (.arr net' ne' ys true false em')=>
  bif Nat.beq net' net then match Sh.same ne' ne with
   |some ⟨h⟩=>cm.ep (match em' with
     | .ex=>true
     |_=> !ys.isEmpty) (match ho with
    |none=>cm.opt xs[i]? fun x=>K .undef ((H.del m).put id (.nest et e no net ne (xs.set i (du e no ne x (fG h ys))) em none))
    |some (j,n,x)=>bif Nat.beq n m ||(H.get n).isNone then cm.ep (Nat.beq i j) (K .undef ((H.del m).put id (.nest et e no net ne (xs.set i (du e no ne x (fG h ys))) em none))) else none)
   |none=>none
  else none
 |_,_=>none
def Dw (cm:Cm β) (H:GH) (id i off:Nat) (vs:List TV) (K:TV->GH->Option β):Option β:=
 match H.get id with
 |some (.nest et e no net ne xs em none)=>cm.opt xs[i]? fun x=>
  bif (Nat.ble (off+vs.length) no ||Nat.blt no off) &&Nat.ble (off+vs.length) e.sz && !vs.isEmpty then
   match e.jj (dY (e.de x) off vs) with
   |some y=>K .undef (H.put id (.nest et e no net ne (xs.set i y) em none))
   |none=>none
  else none
 |_=>none
def wF:TV->Bool
 | .int _ _ | .byte _ | .bool _ | .str _=>true
 |_=>false
def Cq (cm:Cm β) (P:Program) (H:GH) (t:TypeId) (a v:TV) (K:TV->GH->Option β):Option β:=
 match a with
 | .jd id i off=>match CL H id with
  |some no=>match P.info? t with
   |some inf=>bif Nat.beq v.cells.length inf.size &&v.cells.all TV.one then
     bif Nat.beq off no &&Nat.beq v.cells.length 1 then match v with
      | .all m=>PK cm H id i m K
      |_=>none
     else bif v.cells.all wF then Dw cm (oD H id) id i off v.cells K else none
    else none
   |none=>none
  |none=>B7 cm P H t a v K
 |_=>B7 cm P H t a v K
def fq (cm:Cm β) (P:Program) (sh:cA) (H:GH) (t:TypeId) (x ix:TV) (K:TV->GH->Option β):Option β:=
 match P.underlying t,x,ix with
 |some (.slice e),.all id,.int _ i=>match P.info? e,H.get id with
  |some inf,some (.nest _ s _ _ _ xs _ _)=>bif Nat.beq s.sz inf.size then cm.ep (aQ 0 i &&aR i xs.length) (K (.jd id i.toNat 0) H) else none
  |_,_=>fe cm P sh H t x ix K
 |_,_,_=>fe cm P sh H t x ix K
def KW (P:Program) (H:GH) (t:TypeId) (x:TV) (K:TV->GH->Option β):Option β:=
 match P.underlying t,x with
 |some (.slice _),.all id=>match H.get id with
  |some (.nest _ _ _ _ _ xs _ _)=>K (.int .i64 xs.length) H
  |_=>Sl P H t x K
 |_,_=>Sl P H t x K
def Cg:Option TV->Bool
 |some (.raw (.slice none 0 0))=>true
 |_=>false
def Cu (no sz:Nat):Nat->List TV->Bool
 |0,_=>true
 |n+1,l=>Cg l[no]? &&Cu no sz n (l.drop sz)
def gK (cm:Cm β) (P:Program) (sh:cA) (H:GH) (t:TypeId) (eq:Bool) (l c:TV) (K:TV->GH->Option β):Option β:=
 match (match bM P t with
  |some (e,_)=>AH sh.gZ e
  |none=>none) with
 |none=>iQ cm P sh H t eq l c K
 |some (no,net)=>match bM P t,l,c with
  |some (e,i),.int .i64 l,.int .i64 c=>
   match zeroOf P e,sh.ty e,sh.ty net with
   |some z,some s,some ne=>bif Nat.beq z.cells.size i.size &&z.cells.toList.all fy &&Nat.beq s.sz i.size &&HW s no ne &&eq then
    match s.jj (z.cells.toList.map ja) with
    |some zz=>bif (aY s no ne zz).isEmpty &&Cg (z.cells.toList.map ja)[no]? then
      cm.ep (aQ 0 l &&aQ l c &&aQ (c*(i.bytes+1)) roomy) (K (.all H.n) (H.new (.nest e s no net ne (List.replicate c.toNat zz) .no none))) else none
    |none=>none
    else none
   |_,_,_=>none
  |_,_,_=>none
def Q4 (no:Nat) (ps:List (Nat×TV)):Bool:=ps.any fun p=>match p.2.cells[no]? with
 |some (.all _)=>true
 |_=>false
def fD (P:Program) (sh:cA) (H:GH) (t:TypeId) (len:Nat) (ps:List (Nat×TV)) (K:TV->GH->Option β):Option β:=
 match (match bM P t with
  |some (e,_)=>AH sh.gZ e
  |none=>none) with
 |none=>fm P sh H t len ps K
 |some (no,net)=>match bM P t with
  |some (e,i)=>
   bif Nat.beq len 0 &&(AH sh.gZ (e+1000000)).isSome ||Q4 no ps then fm P sh H t len ps K else
   bif Nat.ble (len*(i.size+1)) (2^24) &&ps.all (fun p=>p.2.ok) then
    match zeroOf P e,sh.ty e,sh.ty net with
    |some z,some s,some ne=>bif Nat.beq z.cells.size i.size &&z.cells.toList.all fy &&Nat.beq s.sz i.size &&HW s no ne then
     match pZ (fun j=>some (j*i.size,i.size)) (PL (z.cells.toList.map ja) len) ps with
     |some cells=>match iF cells H with
      |some (cells,H)=>match rowsOf s len cells with
       |some xs=>bif xs.all (fun x=>(aY s no ne x).isEmpty) &&Cu no s.sz len cells then K (.all H.n) (H.new (.nest e s no net ne xs .no none)) else none
       |none=>none
      |none=>none
     |none=>none
     else none
    |_,_,_=>none
   else none
  |none=>none
def wI (fi:FI):List Tmp->List TV->GE->GE
 |t::ts,a::as,E=>wI fi ts as (dc fi t a E)
 |_,_,E=>E
def Jd (sf:eF β) (l:Nat) (args:List TV) (H:GH) (K:TV->GH->Option β):Option β:=
 match H.get l with
 |some (.loop bO .ready _ fi E ps dZ body)=>
  bif Nat.beq args.length ps.length then
   sf.code bO fi (some l) dZ (wI fi ps args E) H fun x E1 H1=>match x with
    | .normal=>match H1.get l with
     |some (.loop fid1 .ready pd1 fi1 F1 ps1 asg1 body1)=>
      sf.code bO fi (some l) body E1 (H1.put l (.loop fid1 .busy pd1 fi1 F1 ps1 asg1 body1)) fun x _ H2=>
       match H2.get l with
       |some (.loop fid2 _ _ fi2 F2 ps2 asg2 body2)=>match x with
        | .normal=>K (.bool true) (H2.put l (.loop fid2 .ready none fi2 F2 ps2 asg2 body2))
        | .ret=>K (.bool false) (H2.put l (.loop fid2 .done (some .ret) fi2 F2 ps2 asg2 body2))
        | .exit id=>K (.bool false) (H2.put l (.loop fid2 .done (some (.exit id)) fi2 F2 ps2 asg2 body2))
        | .panic _=>none
       |_=>none
     |_=>none
    |_=>none
  else none
 |_=>none
def Xv (c:UInt8) (s:List UInt8):Int:=match II c s 0 with |some i=>(i:Int) |none=> -1
def CG (H:GH) (fn:Func) (args:List TV) (K:TV->GH->Option β):Option β:=
 if fn.origin != "" then none else
 if fn.name == "internal/abi.NoEscape" then
  match args with
  | [x]=>K x H
  |_=>none
 else if fn.name == "internal/bytealg.IndexByteString" then
  match args with
  | [.str s,.byte c]=>K (.int .i64 (Xv c s)) H
  |_=>none
 else if fn.name == "internal/bytealg.CountString" then
  match args with
  | [.str s,.byte c]=>K (.int .i64 (MN c s)) H
  |_=>none
 else none
def C4 (P:Program) (sf:eF β) (H:GH) (f:FuncId) (args:List TV) (K:TV->GH->Option β):Option β:=
 match P.funcs[f]? with
 |some fn=>match fn.body with
  |none=>CG H fn args K
  |some _=>sf.call f args H K
 |none=>none
def lM (f:Int->Int->Int):IntKind->Int->List TV->Option TV
 |k,n,[]=>some (.int k n)
 |k,n,.int k' m::r=>if k=k' then lM f k (f n m) r else none
 |_,_,_=>none
def u5 (H:GH) (f:Int->Int->Int) (args:List TV) (K:TV->GH->Option β):Option β:=
 match args with
 | .int k n::r=>match lM f k n r with
  |some v=>K v H
  |none=>none
 |_=>none
def oe (cm:Cm β) (H:GH) (x:TV) (K:TV->GH->Option β):Option β:=
 match x with
 | .raw (.slice none 0 0)=>K (.raw (.pointer none)) H
 | .all id=>match H.get id with
  |some (.arr _ _ xs _ _ em)=>match em with
   | .ex=>cm.WN xs.isEmpty (K (.raw (.pointer none)) H) (K (.jd id 0 0) H)
   |_=>cm.ep (!xs.isEmpty) (K (.jd id 0 0) H)
  |_=>none
 |_=>none
def xl (cm:Cm β) (P:Program) (H:GH) (argTypes:Array TypeId) (p n:TV) (K:TV->GH->Option β):Option β:=
 match p,n with
 | .raw (.pointer none),.int .i64 n=>cm.ep (n==0) (K (.str []) H)
 | .jd id 0 0,.int .i64 n=>match H.get id,argTypes[0]? with
  |some (.arr et e xs _ false em),some pt=>match Sh.same e .byte with
   |some ⟨h⟩=>bif Nat.beq (P.cellsOf et) 1 &&qz P pt et then
     cm.ep (aQ 0 n &&aQ n xs.length &&aQ n roomy) (K (.str ((fG h xs:List UInt8).take n.toNat)) (H.put id (.arr et e xs false false em))) else none
   |none=>none
  |_,_=>none
 |_,_=>none
def xL (cm:Cm β) (P:Program) (sh:cA) (H:GH) (argTypes:Array TypeId) (s x:TV) (K:TV->GH->Option β):Option β:=
 match s,x with
 | .all id,.all id2=>match H.get id,H.get id2 with
  |some (.nest et e no net ne xs em none),some (.nest _ e2 no2 net2 ne2 ys _ none)=>
   match Sh.same e e2,Sh.same ne ne2 with
   |some ⟨hh⟩,some _=>match argTypes[0]?,argTypes[1]? with
    |some t,some xt=>
     if isInt P xt then none else
     match bM P t with
     |some (e',i)=>match zeroOf P e' with
      |some z=>bif Nat.ble 1 i.size &&Nat.beq z.cells.size i.size &&Nat.beq e2.sz i.size &&Nat.beq no no2 &&Nat.beq net net2 &&Nat.beq et e' && !ys.isEmpty &&ys.all (fun y=>(aY e2 no2 ne2 y).isEmpty) && !Nat.beq id id2 then
        cm.ep (Nat.ble ((xs.length+ys.length)*(i.bytes+1)) roomy) (K (.all H.n) (((H.del id).del id2).new (.nest et e2 no net ne2 (fG hh xs++ys) em none)))
       else none
      |none=>none
     |none=>none
    |_,_=>none
   |_,_=>none
  |_,_=>qv cm P sh H argTypes s x K
 | .raw (.slice none 0 0),.all id2=>match H.get id2 with
  |some (.nest et e no net ne ys _ none)=>match argTypes[0]?,argTypes[1]? with
   |some t,some xt=>
    if isInt P xt then none else
    match bM P t with
    |some (e',i)=>match zeroOf P e' with
     |some z=>bif Nat.ble 1 i.size &&Nat.beq z.cells.size i.size &&Nat.beq e.sz i.size &&Nat.beq et e' && !ys.isEmpty &&ys.all (fun y=>(aY e no ne y).isEmpty) then
       cm.ep (Nat.ble (ys.length*(i.bytes+1)) roomy) (K (.all H.n) ((H.del id2).new (.nest et e no net ne ys .any none)))
      else none
     |none=>none
    |none=>none
   |_,_=>none
  |_=>qv cm P sh H argTypes s x K
 |_,_=>qv cm P sh H argTypes s x K
def pO (cm:Cm β) (P:Program) (sh:cA) (H:GH) (b:Builtin) (argTypes:Array TypeId) (args:List TV) (K:TV->GH->Option β):Option β:=
 match b,args with
 | .append,[s,x]=>xL cm P sh H argTypes s x K
 | .len,[x]=>match argTypes[0]? with
  |some t=>KW P H t x K
  |none=>none
 | .max,args=>u5 H (fun x y=>bif aR x y then y else x) args K
 | .min,args=>u5 H (fun x y=>bif aR y x then y else x) args K
 | .unsafeSliceData,[x]=>oe cm H x K
 | .unsafeString,[p,n]=>bif argTypes[0]?.isSome then xl cm P H argTypes p n K else none
 |_,_=>none
def vk (cm:Cm β) (P:Program) (sh:cA) (sf:eF β) (Z:Operand->TV) (H:GH) (c:Call) (K:TV->GH->Option β):Option β:=
 match c.callee with
 | .builtin b=>pO cm P sh H b c.argTypes (c.args.toList.map Z) K
 | .value f=>match Z f with
  | .mX l=>Jd sf l (c.args.toList.map Z) H K
  | .fn f first captured=>C4 P sf H f (first++c.args.toList.map Z++captured) K
  |_=>none
 | .invoke _ _=>none
def CJ:Operand->Operand->Bool
 | .tmp a,.tmp b=>Nat.beq a b
 |_,_=>false
def Zp:Operand->Bool
 | .const _=>true
 |_=>false
def Rm (P:Program) (op:BinOp) (t:TypeId) (x y:Operand) (a b:TV):Option Bool:=
 match P.underlying t,a,b with
 |some (.interface _),.raw .nilIface,.raw .nilIface=>bif Zp x ||Zp y then match op with
   | .eql=>some true
   | .neq=>some false
   |_=>none
  else none
 |some (.interface _),.raw (.iface _ _),.raw .nilIface=>match op with
   | .eql=>some false
   | .neq=>some true
   |_=>none
 |_,_,_=>none
def jc (cm:Cm β) (P:Program) (sh:cA) (sf:eF β) (Z:Operand->TV) (H:GH) (o:Oper) (K:TV->GH->Option β):Option β:=
 match o.op with
 | .move x | .assign x=>K (Z x) H
 | .pick c a b=>Ls H (Z c) (Z a) (Z b) K
 | .alloc e=>v8 P H e K
 | .box e x=>WH H e (Z x) K
 | .build t parts=>JD P H t (parts.toList.map fun p=>(p.1,Z p.2)) K
 | .buildSlice t len parts=>fD P sh H t len (parts.toList.map fun p=>(p.1,Z p.2)) K
 | .load t a=>mc cm P sh H t (Z a) K
 | .store t a x=>Cq cm P H t (Z a) (Z x) K
 | .nilCheck x=>Wo H (Z x) K
 | .binOp op t x y _=>match Rm P op t x y (Z x) (Z y) with
  |some b=>K (.bool b) H
  |none=>Tx cm P H op t (Z x) (Z y) K
 | .unOp op _ x=>X7 H op (Z x) K
 | .convert src dst x=>pV P H src dst (Z x) K
 | .makeFunc (.func f) first captured=>K (.fn f (first.toList.map Z) (captured.toList.map Z)) H
 | .makeSlice t l c=>gK cm P sh H t (CJ l c) (Z l) (Z c) K
 | .slice t x lo hi mx=>Ju cm P H t (Z x) (lo.map Z) (hi.map Z) (mx.map Z) K
 | .fieldAddr s x f=>iX P H s (Z x) f K
 | .field t x f=>Dj P H t (Z x) f K
 | .indexAddr t x ix=>fq cm P sh H t (Z x) (Yf (Z ix)) K
 | .index t x ix=>BN cm P H t (Z x) (Yf (Z ix)) K
 | .range t x=>Jf P H t (Z x) K
 | .makeMap t n=>sw P sh H t (n.map Z) K
 | .lookup t x k ok=>Fs P sh H t (Z x) (Z k) ok K
 | .mapUpdate t m k x=>yh cm P H t (Z m) (Z k) (Z x) K
 | .insert t m k x=>yh cm P H t (Z m) (Z k) (Z x) K
 | .next it true=>OS cm H (Z it) K
 | .extract tp i=>qg H (Z tp) i K
 | .makeInterface t x=>oI P H t (Z x) K
 | .typeAssert x _ asserted ok=>mJ P H (Z x) asserted ok K
 | .panic x=>IL H (Z x) K
 | .call c=>vk cm P sh sf Z H c K
 |_=>none
def nU (fi:FI) (k:Nat) (x:Option β):Option β:=bif ou fi.st k then none else x
def TJ (o:Oper) (j:Nat):Nat:=match o.dst with
 |some d=>5*d+5+j
 |none=>0
def U7:Operand->Nat->Nat
 | .tmp d,j=>5*d+5+j
 |_,_=>0
def kE (cm:Cm β) (fi:FI) (ops:Array Oper) (o:Oper) (E:GE) (run skip:GE->Option β):Option β:=
 match o.guard with
 |none=>run E
 |some (j,want)=>match (ops[j]?).bind (·.dst) with
  |some d=>match fx fi E d with
   | .bool b=>cm.WN b (bif want then nU fi (TJ o 1) (run (dc fi d (.bool true) E)) else nU fi (TJ o 2) (skip (dc fi d (.bool true) E))) (bif want then nU fi (TJ o 2) (skip (dc fi d (.bool false) E)) else nU fi (TJ o 1) (run (dc fi d (.bool false) E)))
   | .raw v=>match v with
    | .bool _ | .chan _=>none
    |_=>skip E
   |_=>none
  |none=>none
def od (cm:Cm β) (P:Program) (sh:cA) (sf:eF β) (fi:FI) (ops:Array Oper):List Oper->GE->GH->(GE->GH->Option β)->(GE->Value->GH->Option β)->Option β
 | [],E,H,K,_=>K E H
 |o::rest,E,H,K,KP=>
  kE cm fi ops o E (fun E=>jc cm P sh sf (bZ fi E) H o fun v H=>Om v (fun w=>KP E w H) (od cm P sh sf fi ops rest (cC fi E o.dst v) H K KP))
   (fun E=>od cm P sh sf fi ops rest (cC fi E o.dst (.raw Go.undef)) H K KP)
def Di:List TV->Option (List UInt8)
 | []=>some []
 | .byte c::r=>match Di r with
  |some l=>some (c::l)
  |none=>none
 |_=>none
def Sj (P:Program) (fi:FI) (E:GE) (o o2:Oper):Option (Tmp×Tmp×List UInt8):=
 match o.op,o2.op,o.dst,o2.dst,o.guard,o2.guard with
 | .buildSlice t len parts,.convert src dst (.tmp d'),some d,some d2,none,none=>
  bif Nat.beq d d' &&Nat.beq src dst &&Nat.beq src t &&Nat.blt d fi.nt then
   match P.underlying src,bM P t with
   |some (.slice e0),some (e,i)=>match P.underlying e0,zeroOf P e with
    |some (.int .u8),some z=>
     bif Nat.ble (len*(i.size+1)) (2^24) &&(parts.toList.map fun p=>(p.1,bZ fi E p.2)).all (fun p=>p.2.ok) &&Nat.beq z.cells.size i.size &&z.cells.toList.all fy &&Nat.beq i.size 1 then
      match pZ (fun j=>some (j*i.size,i.size)) (PL (z.cells.toList.map ja) len) (parts.toList.map fun p=>(p.1,bZ fi E p.2)) with
      |some cells=>match Di cells with
       |some bs=>bif Nat.beq bs.length len then some (d,d2,bs) else none
       |none=>none
      |none=>none
     else none
    |_,_=>none
   |_,_=>none
  else none
 |_,_,_,_,_,_=>none
def xF (cm:Cm β) (P:Program) (sh:cA) (sf:eF β) (fi:FI) (ops:Array Oper):List Oper->GE->GH->(GE->GH->Option β)->(GE->Value->GH->Option β)->Option β
 | [],E,H,K,_=>K E H
 | [o],E,H,K,KP=>
  kE cm fi ops o E (fun E=>jc cm P sh sf (bZ fi E) H o fun v H=>Om v (fun w=>KP E w H) (K (cC fi E o.dst v) H))
   (fun E=>K (cC fi E o.dst (.raw Go.undef)) H)
 |o::o2::rest,E,H,K,KP=>match Sj P fi E o o2 with
  |some (d,d2,bs)=>xF cm P sh sf fi ops rest (cC fi (cC fi E (some d) (.aC .byte bs (some false) false)) (some d2) (.aC .byte bs (some false) false)) H K KP
  |none=>kE cm fi ops o E (fun E=>jc cm P sh sf (bZ fi E) H o fun v H=>Om v (fun w=>KP E w H) (xF cm P sh sf fi ops (o2::rest) (cC fi E o.dst v) H K KP))
   (fun E=>xF cm P sh sf fi ops (o2::rest) (cC fi E o.dst (.raw Go.undef)) H K KP)
def gU:TV->Bool
 | .int _ _ | .byte _ | .str _ | .bool _=>true
 |_=>false
def H8:TV->Bool
 | .agg _=>true
 |t=>gU t
def kN (Z:Operand->TV) (o:Oper):Option (List Nat×Bool):=
 match o.op with
 | .load _ a=>match Z a with
  | .ptr id _=>some ([id],false)
  | .jd id _ _=>some ([id],false)
  | .oC _=>some ([],true)
  |_=>none
 | .binOp _ _ x y _=>bif H8 (Z x) &&H8 (Z y) then some ([],false) else none
 | .lookup _ x _ _=>match Z x with
  | .mp id=>some ([id],false)
  | .raw (.map none)=>some ([],false)
  |_=>none
 | .call c=>match c.callee with
  | .builtin .len=>match c.args.toList with
   | [x]=>match Z x with
    | .str _ | .aC _ _ _ _ | .all _ | .own _ _ _=>some ([],false)
    | .raw (.slice none 0 0)=>some ([],false)
    | .mp id=>some ([id],false)
    |_=>none
   |_=>none
  | .builtin .max=>some ([],false)
  | .builtin .min=>some ([],false)
  | .builtin .unsafeSliceData=>some ([],false)
  |_=>none
 | .convert _ _ x=>match Z x with
  | .all id=>some ([id],false)
  | .own id _ _=>some ([id],false)
  | .int _ _ | .byte _ | .str _=>some ([],false)
  | .aC _ _ _ _=>some ([],true)
  |_=>none
 |_=>none
def mm:TV->Bool
 | .int _ _ | .byte _ | .bool _ | .str _ | .ptr _ _ | .jd _ _ _ | .oC _ | .aC _ _ _ _ | .all _ | .own _ _ _ | .mp _=>true
 | .raw v=>match v with
  | .bool _ | .int _ _ | .string _ | .pointer _ | .slice _ _ _ | .map _ | .nilFunc | .nilIface=>true
  |_=>false
 |_=>false
def La:TV->Bool
 | .agg cs=>cs.all mm
 | .jg cs=>cs.all mm
 | .fn _ a c=>a.all mm &&c.all mm
 |t=>mm t
def MR (aZ:List Nat):Operand->Bool
 | .tmp t=> !ou aZ t
 |_=>false
def vj (Z:Operand->TV) (aZ:List Nat) (o:Oper):Bool:=
 match o.op with
 | .move x | .assign x=>MR aZ x
 | .indexAddr _ x ix=>MR aZ x &&(match Z x,Z ix with
  | .aC _ _ _ _,.int _ _=>true
  |_,_=>false)
 | .fieldAddr _ x _=>MR aZ x &&(match Z x with
  | .oC _=>true
  |_=>false)
 |_=>false
def vh (Z:Operand->TV) (aZ:List Nat) (o:Oper):Bool:=
 match o.op with
 | .load _ a=>MR aZ a &&(match Z a with
  | .oC _=>true
  |_=>false)
 |_=>false
def ju (b:Bool) (d:Option Tmp) (aZ:List Nat):List Nat:=
 bif b then aZ else match d with
  |some d=>d::aZ
  |none=>aZ
structure WO where
 i:Nat
 ids:List Nat
 st:List (Option Nat)
structure Uj where
 E:GE
 H:GH
 bR:List (Nat×Option GH)
 reads:List WO
 aZ:List Nat
 pn:List Nat
 po:List (Nat×Nat)
def vA:List (Option Nat)->List (Option Nat)->Bool
 | [],[]=>true
 |some a::r,some b::r'=>Nat.beq a b &&vA r r'
 |_,_=>false
def qq (H:GH) (ids:List Nat) (p:Bool) (m:Nat):List (Nat×Option GH)->Bool
 | []=>true
 |(c,q)::rest=>(m.testBit c ||(match q with
  |some Hc=> !p &&vA (ids.map Hc.aT) (ids.map H.aT)
  |none=>false)) &&qq H ids p m rest
def l5 (H:GH) (m:Nat):List WO->Bool
 | []=>true
 |r::rest=>(m.testBit r.i ||vA r.st (r.ids.map H.aT)) &&l5 H m rest
def qR (m:Nat):List (Nat×Option GH)->Bool
 | []=>true
 |(c,_)::rest=>m.testBit c &&qR m rest
def Rw:Option bL->Bool
 |some (.map ..)=>true
 |_=>false
def jq (po:List (Nat×Nat)):List Nat->List Nat
 | []=> []
 |j::r=>match po.find? (fun p=>Nat.beq p.1 j) with
  |some p=>p.2::jq po r
  |none=>jq po r
def JV (H:GH) (po:List (Nat×Nat)) (js:List Nat):Bool:=js.all fun j=>match po.find? (fun p=>Nat.beq p.1 j) with
 |some p=>Rw (H.get p.2)
 |none=>false
def Rf (Z:Operand->TV) (H:GH) (po:List (Nat×Nat)) (js:List Nat) (o:Oper):Bool:=
 match o.op with
 | .store _ a _=>match Z a with
  | .ptr id _=>match H.get id with
   |some (.cells _ _ true)=>JV H po js
   |_=>false
  |_=>false
 |_=>false
def tv:List Nat->GH->GH
 | [],H=>H
 |k::r,H=>tv r (H.del k)
def rP (cm:Cm β) (P:Program) (sh:cA) (sf:eF β) (fi:FI) (ops:Array Oper) (i:Nat) (o:Oper) (m:Nat) (s:Uj) (K:Uj->Option β) (KP:Value->GH->Option β):Option β:=
 kE cm fi ops o s.E (fun E=>
  match kindOf P o with
  | .pure=>bif vj (bZ fi E) s.aZ o then jc cm P sh sf (bZ fi E) s.H o fun v H=>K { s with E:=cC fi E o.dst v,H:=H }
    else jc cm P sh sf (bZ fi E) s.H o fun v H=>K { s with E:=cC fi E o.dst v,H:=H,aZ:=ju (gU v) o.dst s.aZ }
  | .read=>bif vh (bZ fi E) s.aZ o then
     jc cm P sh sf (bZ fi E) s.H o fun v H=>bif La v then K { s with E:=cC fi E o.dst v,H:=H,reads:=⟨i,[],[]⟩::s.reads } else none
    else match kN (bZ fi E) o with
   |some (ids,p)=>bif (s.pn.isEmpty ||(ids.isEmpty && !p)) &&qq s.H ids p m s.bR then
     jc cm P sh sf (bZ fi E) s.H o fun v H=>bif La v then K { s with E:=cC fi E o.dst v,H:=H,reads:=⟨i,ids,ids.map s.H.aT⟩::s.reads,aZ:=ju (gU v) o.dst s.aZ } else none
    else none
   |none=>none
  | .fresh=>match o.op with
   | .buildSlice _ _ _=>jc cm P sh sf (bZ fi E) s.H o fun v H=>K { s with E:=cC fi E o.dst v,H:=H,aZ:=ju (gU v) o.dst s.aZ,pn:=i::s.pn }
   | .alloc _=>jc cm P sh sf (bZ fi E) s.H o fun v H=>K { s with E:=cC fi E o.dst v,H:=H,aZ:=ju (gU v) o.dst s.aZ,pn:=i::s.pn }
   | .makeSlice _ _ _=>jc cm P sh sf (bZ fi E) s.H o fun v H=>K { s with E:=cC fi E o.dst v,H:=H,aZ:=ju (gU v) o.dst s.aZ,pn:=i::s.pn }
   | .makeMap _ _=>jc cm P sh sf (bZ fi E) s.H o fun v H=>K { s with E:=cC fi E o.dst v,H:=H,aZ:=ju (gU v) o.dst s.aZ,pn:=i::s.pn,po:=(i,s.H.n)::s.po }
   |_=>none
  | .chain=>bif qR m s.bR then
    bif s.pn.all (fun j=>m.testBit j) then
    jc cm P sh sf (bZ fi E) s.H o fun v H=>Om v (fun w=>KP w H) (
     bif l5 H m s.reads then K { E:=cC fi E o.dst v,H:=H,bR:=(i,bif s.pn.isEmpty then some s.H else none)::s.bR,reads:=s.reads,aZ:=ju (gU v) o.dst s.aZ,pn:= [],po:=s.po } else none)
    else bif Rf (bZ fi E) s.H s.po (s.pn.filter fun j=> !m.testBit j) o then
    jc cm P sh sf (bZ fi E) s.H o fun v H=>
     bif JV H s.po (s.pn.filter fun j=> !m.testBit j) &&l5 (tv (jq s.po (s.pn.filter fun j=> !m.testBit j)) H) m s.reads then K { E:=cC fi E o.dst v,H:=H,bR:=(i,none)::s.bR,reads:=s.reads,aZ:=ju (gU v) o.dst s.aZ,pn:=s.pn.filter fun j=> !m.testBit j,po:=s.po } else none
    else none
   else none)
  (fun E=>K { s with E:=cC fi E o.dst (.raw Go.undef) })
def mQ (c:Nat):List Oper->List Nat->Bool
 | [],_=>true
 |_::_,[]=>false
 |_::r,m::ms=>m.testBit c &&mQ c r ms
def lE (fi:FI):List Oper->GE->GE
 | [],E=>E
 |o::rest,E=>lE fi rest (cC fi E o.dst .undef)
def qO (cm:Cm β) (P:Program) (sh:cA) (sf:eF β) (fi:FI) (ops:Array Oper):List Oper->Nat->List Nat->Uj->(Uj->Option β)->(Value->GH->Option β)->Option β
 | [],_,_,s,K,_=>K s
 |_::_,_,[],_,_,_=>none
 |o::rest,i,m::ms,s,K,KP=>rP cm P sh sf fi ops i o m s (fun s=>qO cm P sh sf fi ops rest (i+1) ms s K KP) (fun w H=>bif mQ i rest ms then KP w H else none)
def Qx (cm:Cm β) (P:Program) (sh:cA) (sf:eF β) (fi:FI) (ops:Array Oper) (E:GE) (H:GH) (K:GE->GH->Option β) (KP:GE->Value->GH->Option β):Option β:=
 bif jT ops (cX ops.toList []) then
  qO cm P sh sf fi ops ops.toList 0 (cX ops.toList []) ⟨E,H,[],[],[],[],[]⟩ (fun s=>K s.E s.H) (fun w H=>KP (lE fi ops.toList E) w H)
 else none
def dL:Code->Nat
 | .region id _ _=>id
 | .seq a _=>dL a
 | .block _ c=>dL c
 | .scope c=>dL c
 | .loop c=>dL c
 |_=>0
def quiet (P:Program) (sh:cA) (o:Oper):Bool:=
 match o.op with
 | .move _ | .assign _ | .pick .. | .binOp .. | .unOp .. | .index .. | .field .. | .fieldAddr .. | .indexAddr .. | .extract .. =>true
 | .load t _=>sh.gZ.isEmpty || !O5 P t
 | .convert src _ _=>match P.underlying src with
  |some (.int _)=>true
  |_=>false
 | .call c=>match c.callee with
  | .builtin .len=>true
  |_=>false
 |_=>false
def Hd (fi:FI):List Oper->List Tmp
 | []=> []
 |o::r=>match o.dst with
  |some d=>match cls fi d with
   | .loc=>d::Hd fi r
   |_=>Hd fi r
  |none=>Hd fi r
def PG (P:Program) (sh:cA) (fi:FI) (ops:Array Oper):Option Tmp:=
 bif ops.toList.any (fun o=>o.guard.isSome) &&ops.toList.all (quiet P sh) then match Hd fi ops.toList with
  | [d]=>some d
  | []=>match ops.toList.getLast?.bind (·.dst) with
   |some d=>match cls fi d with
    | .tmp=>some d
    |_=>none
   |none=>none
  |_=>none
 else none
def vG:TV->Option Bool
 | .bool b=>some b
 |_=>none
def AF (fi:FI) (c:Operand) (b:Bool) (E:GE):GE:=match c with
 | .tmp t=>dc fi t (.bool b) E
 |_=>E
def CP:eF β:=⟨fun _ _ _ _ _ _ _=>none,fun _ _ _ _=>none,fun _ _ _ d _ _ _=>d⟩
def gC (cx:Cx β) (P:Program) (sh:cA) (sf:eF β) (bO:Nat) (fi:FI) (ro:Option Nat):Code->GE->GH->(X->GE->GH->Option β)->Option β
 | .skip,E,H,K=>K .normal E H
 | .region id ops false,E,H,K=>nU fi (5*id+5) <|match PG P sh fi ops with
  |some d=>cx.jn (fun cm=>od cm P sh CP fi ops ops.toList E.reset H (fun E _=>vG (fx fi E d)) fun _ _ _=>none) fun b=>K .normal (dc fi d (.bool b) E.reset) H
  |none=>xF cx.cm P sh sf fi ops ops.toList E.reset H (fun E H=>K .normal E H) fun E w H=>K (.panic w) E H
 | .region id ops true,E,H,K=>nU fi (5*id+5) <|Qx cx.cm P sh sf fi ops E.reset H (fun E H=>K .normal E H) fun E w H=>K (.panic w) E H
 | .seq a b,E,H,K=>gC cx P sh sf bO fi ro a E H fun x E H=>match x with
  | .normal=>gC cx P sh sf bO fi ro b E H K
  |x=>K x E H
 | .cond c a b,E,H,K=>match bZ fi E c with
  | .bool t=>cx.cm.WN t (nU fi (U7 c 3) (gC cx P sh sf bO fi ro a (AF fi c true E) H K)) (nU fi (U7 c 4) (gC cx P sh sf bO fi ro b (AF fi c false E) H K))
  |_=>none
 | .block id c,E,H,K=>gC cx P sh sf bO fi ro c E H fun x E H=>match x with
  | .exit j=>bif Nat.beq j id then K .normal E H else K (.exit j) E H
  |x=>K x E H
 | .loop c,E,H,K=>sf.loop bO (dL c) ro (gC cx P sh sf bO fi ro c E H fun x E H=>match x with
   | .normal=>sf.code bO fi ro (.loop c) E H K
   |x=>K x E H) E H K
 | .rangeFunc f ps dZ body,E,H,K=>
  bif (match ro with
   |none=>true
   |some l=>match H.get l with
    |some (.loop ..)=>true
    |_=>false) then
   match bZ fi E f with
   | .fn g first captured=>
    sf.call g (first++ [TV.mX H.n]++captured) (H.new (.loop bO .ready none fi E ps.toList dZ body)) fun t H1=>Om t (fun w=>K (.panic w) E H1) (
     match H1.get H.n with
     |some (.loop bO st pd fi2 E2 ps dZ body)=>
      bif st==LoopState.busy then none else
      match pd with
      |none=>K .normal E (H1.put H.n (.loop bO .exhausted pd fi2 E2 ps dZ body))
      |some .ret=>K .ret E (H1.put H.n (.loop bO .exhausted pd fi2 E2 ps dZ body))
      |some (.exit id)=>K (.exit id) E (H1.put H.n (.loop bO .exhausted pd fi2 E2 ps dZ body))
      |_=>none
     |_=>none)
   |_=>none
  else none
 | .exit id,E,H,K=>K (.exit id) E H
 | .scope c,E,H,K=>gC cx P sh sf bO fi ro c E H K
 | .label _,E,H,K=>K .normal E H
 | .goto _,_,_,_=>none
 | .ret,E,H,K=>K .ret E H
 | .refuse _,_,_,_=>none
def S5 (P:Program) (fi:FI) (E:GE) (H:GH):ResultVar->Option TV
 | .tmp t=>some (fx fi E t)
 | .cell a t=>match fx fi E a with
  | .ptr id off=>match H.get id with
   |some (.cells _ cs _)=>bif Nat.ble off cs.length then fF P t (cs.drop off) else none
   |_=>none
  |_=>none
def Bo (P:Program) (fi:FI) (E:GE) (H:GH):List ResultVar->Option (List TV)
 | []=>some []
 |r::rs=>match S5 P fi E H r,Bo P fi E H rs with
  |some v,some vs=>some (v::vs)
  |_,_=>none
def vN:Nat->List TV->ID
 |_,[]=> .e
 |i,v::r=> .c i v (vN (i+1) r)
def isRec (o:Oper):Bool:=match o.op with
 | .call { callee:= .builtin .recover,.. }=>true
 |_=>false
def xh (cm:Cm β) (P:Program) (sh:cA) (sf:eF β) (fi:FI) (ops:Array Oper):List Oper->GE->GH->Iv.Mode->(GE->GH->Iv.Mode->Option β)->Option β
 | [],E,H,u,K=>K E H u
 |o::rest,E,H,u,K=>
  kE cm fi ops o E (fun E=>bif isRec o then (match u with
    | .panicking v false=>xh cm P sh sf fi ops rest (cC fi E o.dst (.raw v)) H (.panicking v true) K
    |u=>xh cm P sh sf fi ops rest (cC fi E o.dst (.raw .nilIface)) H u K)
   else jc cm P sh sf (bZ fi E) H o fun v H=>Om v (fun _=>none) (xh cm P sh sf fi ops rest (cC fi E o.dst v) H u K))
   (fun E=>xh cm P sh sf fi ops rest (cC fi E o.dst (.raw Go.undef)) H u K)
def gD:Code->Bool
 | .seq a b=>gD a &&gD b
 | .cond _ a b=>gD a &&gD b
 | .block _ a=>gD a
 | .scope a=>gD a
 | .loop _ | .rangeFunc .. =>false
 |_=>true
def wo (cx:Cx β) (P:Program) (sh:cA) (hint:Hint) (sf:eF β) (g:FuncId) (args:List TV) (u:Iv.Mode) (H:GH) (K:Iv.Mode->GH->Option β):Option β:=
 match P.funcs[g]? with
 |some fn=>match fn.body with
  |some (.seq (.region _ ops false) rest)=>
   bif F8 ops && !calls ops &&Nat.ble args.length fn.ntmps &&fn.results.isEmpty &&gD rest then
    xh cx.cm P sh sf (cQ hint g fn) ops ops.toList ⟨vN 0 args,.e⟩ H u fun E H u=>
     gC cx P sh sf g (cQ hint g fn) none rest E H fun x _ H=>match x with
      | .normal=>K u H
      | .ret=>K u H
      |_=>none
   else none
  |_=>none
 |none=>none
def CV (ops:Array Oper):Option (Oper×Operand×Array Operand):=match ops.toList.getLast? with
 |some o=>match o.op,o.guard with
  | .defer c,none=>match c.callee with
   | .value f=>some (o,f,c.args)
   |_=>none
  |_,_=>none
 |none=>none
def pU:Code->Option (List Code×Array Oper×Oper×Operand×Array Operand×Code)
 | .seq (.region id ops dr) rest=>match (bif dr then none else CV ops) with
  |some (o,f,xs)=>some ([],ops,o,f,xs,rest)
  |none=>match pU rest with
   |some (pre,q)=>some (.region id ops dr::pre,q)
   |none=>none
 |_=>none
def WI (cx:Cx β) (P:Program) (sh:cA) (sf:eF β) (bO:Nat) (fi:FI):List Code->GE->GH->(GE->GH->Option β)->Option β
 | [],E,H,K=>K E H
 |c::r,E,H,K=>gC cx P sh sf bO fi none c E H fun x E H=>match x with
  | .normal=>WI cx P sh sf bO fi r E H K
  |_=>none
def GO (P:Program) (fi:FI) (fn:Func) (E:GE) (H:GH) (K:TV->GH->Option β):Option β:=match Bo P fi E H fn.results.toList with
 |some [v]=>K v H
 |some vs=>K (.jg vs) H
 |none=>none
def Du (u:Iv.Mode) (H:GH) (K:TV->GH->Option β) (k:Option β):Option β:=match u with
 | .panicking v false=>K (.H5 v) H
 |_=>k
def Im (cx:Cx β) (P:Program) (sh:cA) (hint:Hint) (sf:eF β) (f:FuncId) (fn:Func) (pre:List Code) (ops:Array Oper) (o:Oper) (x:Operand) (xs:Array Operand) (rest:Code) (args:List TV) (H:GH) (K:TV->GH->Option β):Option β:=
 WI cx P sh sf f (cQ hint f fn) pre ⟨vN 0 args,.e⟩ H fun E H=>od cx.cm P sh sf (cQ hint f fn) ops ops.toList.dropLast E.reset H (fun E H=>match bZ (cQ hint f fn) E x with
  | .fn g first captured=>
   gC cx P sh sf f (cQ hint f fn) none rest (cC (cQ hint f fn) E o.dst (.raw Go.undef)) H fun y E1 H=>match y with
    | .normal | .ret=>wo cx P sh hint sf g (first++xs.toList.map (bZ (cQ hint f fn) E)++captured) .returning H fun u H=>Du u H K (GO P (cQ hint f fn) fn E1 H K)
    | .panic w=>wo cx P sh hint sf g (first++xs.toList.map (bZ (cQ hint f fn) E)++captured) (.panicking w false) H fun u H=>Du u H K (GO P (cQ hint f fn) fn E1 H K)
    |_=>none
  |_=>none) fun _ _ _=>none
def Bu (cx:Cx β) (P:Program) (sh:cA) (hint:Hint) (sf:eF β) (f:FuncId) (args:List TV) (H:GH) (K:TV->GH->Option β):Option β:=
 match P.funcs[f]? with
 |some fn=>match fn.body with
  |some c=>bif Nat.ble args.length fn.ntmps then
    match pU c with
    |some (pre,ops,o,x,xs,rest)=>Im cx P sh hint sf f fn pre ops o x xs rest args H K
    |none=>gC cx P sh sf f (cQ hint f fn) none c ⟨vN 0 args,.e⟩ H fun x E H=>match x with
     | .normal | .ret=>GO P (cQ hint f fn) fn E H K
     | .panic w=>K (.H5 w) H
     |_=>none
   else none
  |none=>none
 |none=>none
structure tu (β:Type) where
 call:FuncId->Option (Nat->List TV->GH->(TV->GH->Option β)->Option β)
 loop:Nat->Nat->Option Nat->Option (Nat->GE->GH->(X->GE->GH->Option β)->Option (Option β))
def jr:Nat:=1048576
def nA:List Nat->FuncId->Option (Nat×Nat)
 |k::f'::g::r,f=>bif Nat.beq f f' then some (k,g) else nA r f
 |_,_=>none
def mh:List Int:= [1,10,100,1000,10000,100000,1000000,10000000,100000000,1000000000,10000000000,100000000000,1000000000000,10000000000000,100000000000000,1000000000000000,10000000000000000,100000000000000000,1000000000000000000,10000000000000000000]
def Co (n:Int):Bool:=aQ (-9223372036854775808) n &&aQ n 9223372036854775807
def CR (I:IH) (g:Nat) (vs:List Value):Prop:=∃ cs et fz ex sd,I.get g=some (.cells cs et fz ex sd)/\ex=true/\cs.length=vs.length/\∀ (i:Nat) (v:Value),vs[i]? =some v->cs[i]? =some v
def xR (cs:List UInt8):Bool:=Nat.ble 2 cs.length &&Nat.ble cs.length 4294967280 &&cs.all fun c=>Nat.blt c.toNat 128
def sr:List UInt8:=Go.Pinned.utf8FirstZ.map UInt8.ofNat
def MA:List (UInt8×UInt8):= [(128,191),(160,191),(128,159),(144,191),(128,143),(0,0),(0,0),(0,0),(0,0),(0,0),(0,0),(0,0),(0,0),(0,0),(0,0),(0,0)]
def s9 (c:UInt8):Value:= .int .u8 c.toNat
open Classical in
def jG (k g:Nat) (args:List Value) (I:IH):Option Value:=
 match k,args with
 |0,[]=>some (.bool true)
 |1,[.int .i64 n]=>if Co n=true/\g<bU/\CR I g (mh.map fun z=> .int .u64 z) then some (.string (ba (Lib.itoa n))) else none
 |2,[.string s,.string cs]=>bif xR (bl cs) then some (.string (ba (Lib.trimLeftS (bl s) (bl cs)))) else none
 |3,[.string s]=>if Nat.ble (bl s).length 9223372036854775807=true/\(g / 1000<bU/\g%1000<bU)/\CR I (g / 1000) (sr.map s9)/\CR I (g%1000) (MA.flatMap fun p=> [s9 p.1,s9 p.2]) then some (.bool (Lib.validD (bl s))) else none
 |_,_=>none
def KK (k g:Nat) (args:List Value) (I:IH):Option (Iv.End×IH):=(jG k g args I).map fun v=>(.returned v,I)
def cP (hint:Hint):Iv.Spec:=fun f args I=>match nA (hint jr) f with
 |some (k,g)=>KK k g args I
 |none=>none
def WD (sh:cA) (g:Nat):Bool:=
 match sh.tb g with
 |some ⟨.int .u64,xs⟩=>(xs:List Int)==mh
 |_=>false
def Xe (sh:cA) (g1 g2:Nat):Bool:=
 (match sh.tb g1 with
 |some ⟨.byte,xs⟩=>(xs:List UInt8)==sr
 |_=>false) &&(match sh.tb g2 with
 |some ⟨.cons .byte .byte,ys⟩=>(ys:List (UInt8×UInt8))==MA
 |_=>false)
def AD (cm:Cm β) (sh:cA) (k g:Nat) (args:List TV) (H:GH) (K:TV->GH->Option β):Option (Option β):=
 match k,args with
 |0,[]=>some (K (.bool true) H)
 |1,[.int .i64 n]=>some (bif Nat.blt g bU &&WD sh g then cm.ep (Co n) (K (.str (Lib.itoa n)) H) else none)
 |2,[.str s,.str cs]=>bif xR cs then some (K (.str (Lib.trimLeftS s cs)) H) else none
 |3,[.str s]=>some (bif Nat.blt (g / 1000) bU &&(Nat.blt (g%1000) bU &&Xe sh (g / 1000) (g%1000)) then cm.ep (Nat.ble s.length 9223372036854775807) (K (.bool (Lib.validD s)) H) else none)
 |_,_=>some none
def Pc:Nat:=1048577
def Gh:Nat:=1048578
def OG:List Nat->Nat->Nat->Bool
 |a::b::r,x,y=>bif Nat.beq a x &&Nat.beq b y then true else OG r x y
 |_,_,_=>false
def gv (cx:Cx β) (P:Program) (sh:cA) (hint:Hint) (hk:tu β):Nat->eF β
 |0=>⟨fun _ _ _ _ _ _ _=>none,fun _ _ _ _=>none,fun bO r ro d E H K=>bif OG (hint Gh) bO r then none else match hk.loop bO r ro with
   |some f=>match f 0 E H K with
    |some r=>r
    |none=>d
   |none=>d⟩
 |n+1=>⟨gC cx P sh (gv cx P sh hint hk n),fun f args H K=>match nA (hint jr) f with
   |some (k,g)=>match AD cx.cm sh k g args H K with
    |some r=>r
    |none=>match hk.call f with
     |some h=>h n args H K
     |none=>Bu cx P sh hint (gv cx P sh hint hk n) f args H K
   |none=>bif ou (hint Pc) f then none else match hk.call f with
   |some h=>h n args H K
   |none=>Bu cx P sh hint (gv cx P sh hint hk n) f args H K,
  fun bO r ro d E H K=>bif OG (hint Gh) bO r then none else match hk.loop bO r ro with
   |some f=>match f (n+1) E H K with
    |some r=>r
    |none=>d
   |none=>d⟩
end
end Go.Gv
