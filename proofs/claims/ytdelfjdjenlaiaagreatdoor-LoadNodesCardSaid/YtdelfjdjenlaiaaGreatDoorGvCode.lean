/- The pure evaluator (the second part): calls, regions, code. -/
import Derived.Test.YtdelfjdjenlaiaaGreatDoorGvBase
import Derived.Lib.ItoaNum
import Derived.Lib.SlTrimSet
import Derived.Lib.ValidU
import GoSem.PinnedTables
set_option linter.unusedSimpArgs false
set_option linter.unusedVariables false
namespace Go.Gv
open Go Go.Iv
noncomputable section
variable {β:Type}
structure eB (β:Type) where
 code:Nat->FI->Option Nat->Code->GE->GH->(X->GE->GH->Option β)->Option β
 call:FuncId->List TV->GH->(TV->GH->Option β)->Option β
 loop:Nat->Nat->Option Nat->Option β->GE->GH->(X->GE->GH->Option β)->Option β
def nX (H:GH) (id:Nat):GH:=match H.get id with
 |some (.nest et e no net ne xs em (some (i,n,x)))=>match H.get n with
  |some (.arr net' ne' ys true false .ex)=>bif Nat.beq net' net then (match Sh.same ne' ne with
    |some ⟨h⟩=>(H.del n).put id (.nest et e no net ne (xs.set i (di e no ne x (fM h ys))) em none)
    |none=>H) else H
  |_=>H
 |_=>H
def BZ (cm:Cm β) (P:Program) (H:GH) (t:TypeId) (id i off:Nat) (K:TV->GH->Option β):Option β:=
 match H.get id with
 |some (.nest _ e no _ _ xs _ _)=>bif Nat.ble off e.sz then cm.opt xs[i]? fun x=>match fN P t (((e.dc x).set no .undef).drop off) with
   |some v=>K v H
   |none=>none
  else none
 |_=>none
def We (cm:Cm β) (H:GH) (id i off:Nat) (K:TV->GH->Option β):Option β:=
 match H.get id with
 |some (.nest et e no net ne xs em none)=>bif Nat.beq off no then cm.opt xs[i]? fun x=>
   K (.all H.n) ((H.put id (.nest et e no net ne xs em (some (i,H.n,x)))).new (.arr net ne (aZ e no ne x) true false .ex))
  else none
 |_=>none
def Cz (H:GH) (id:Nat):Option Nat:=match H.get id with
 |some (.nest _ _ no _ _ _ _ _)=>some no
 |_=>none
def HL (H:GH) (_:Nat):GH:=H
def q7 (P:Program) (sh:cw) (H:GH) (t:TypeId) (r:Option TV) (K:TV->GH->Option β):Option β:=lW P sh H t r K
def GC (P:Program) (sh:cw) (H:GH) (t:TypeId) (x k:TV) (ok:Bool) (K:TV->GH->Option β):Option β:=B7 P sh H t x k ok K
def vB (cm:Cm β) (P:Program) (H:GH) (t:TypeId) (m k v:TV) (K:TV->GH->Option β):Option β:=B0 cm P H t m k v K
def PA (P:Program) (t:TypeId):Bool:=match P.underlying t with
 |some (.slice _)=>true
 |_=>false
def l8 (cm:Cm β) (P:Program) (sh:cw) (H:GH) (t:TypeId) (a:TV) (K:TV->GH->Option β):Option β:=
 match sh.zt with
 | []=>nk cm P H t a K
 |_=>match a with
  | .iX id i off=>match Cz H id with
   |some no=>bif PA P t &&Nat.beq off no then match eI P t with
     |some false=>We cm (nX H id) id i off K
     |_=>none
    else BZ cm P H t id i off K
   |none=>nk cm P H t a K
  |_=>nk cm P H t a K
def R3 (cm:Cm β) (H:GH) (id i m:Nat) (K:TV->GH->Option β):Option β:=
 match H.get id,H.get m with
 |some (.nest et e no net ne xs em ho),some (.arr net' ne' ys true false em')=>
  bif Nat.beq net' net then match Sh.same ne' ne with
   |some ⟨h⟩=>cm.ec (match em' with
     | .ex=>true
     |_=> !ys.isEmpty) (match ho with
    |none=>cm.opt xs[i]? fun x=>K .undef ((H.del m).put id (.nest et e no net ne (xs.set i (di e no ne x (fM h ys))) em none))
    |some (j,n,x)=>bif Nat.beq n m ||(H.get n).isNone then cm.ec (Nat.beq i j) (K .undef ((H.del m).put id (.nest et e no net ne (xs.set i (di e no ne x (fM h ys))) em none))) else none)
   |none=>none
  else none
 |_,_=>none
def BF (cm:Cm β) (H:GH) (id i off:Nat) (vs:List TV) (K:TV->GH->Option β):Option β:=
 match H.get id with
 |some (.nest et e no net ne xs em none)=>cm.opt xs[i]? fun x=>
  bif (Nat.ble (off+vs.length) no ||Nat.blt no off) &&Nat.ble (off+vs.length) e.sz && !vs.isEmpty then
   match e.jb (dU (e.dc x) off vs) with
   |some y=>K .undef (H.put id (.nest et e no net ne (xs.set i y) em none))
   |none=>none
  else none
 |_=>none
def yc:TV->Bool
 | .int _ _ | .byte _ | .bool _ | .str _=>true
 |_=>false
def Cw (cm:Cm β) (P:Program) (H:GH) (t:TypeId) (a v:TV) (K:TV->GH->Option β):Option β:=
 match a with
 | .iX id i off=>match Cz H id with
  |some no=>match P.info? t with
   |some inf=>bif Nat.beq v.cells.length inf.size &&v.cells.all TV.one then
     bif Nat.beq off no &&Nat.beq v.cells.length 1 then match v with
      | .all m=>R3 cm H id i m K
      |_=>none
     else bif v.cells.all yc then BF cm (nX H id) id i off v.cells K else none
    else none
   |none=>none
  |none=>Ce cm P H t a v K
 |_=>Ce cm P H t a v K
def fh (cm:Cm β) (P:Program) (sh:cw) (H:GH) (t:TypeId) (x ix:TV) (K:TV->GH->Option β):Option β:=
 match P.underlying t,x,ix with
 |some (.slice e),.all id,.int _ i=>match P.info? e,H.get id with
  |some inf,some (.nest _ s _ _ _ xs _ _)=>bif Nat.beq s.sz inf.size then cm.ec (aQ 0 i &&aR i xs.length) (K (.iX id i.toNat 0) H) else none
  |_,_=>fa cm P sh H t x ix K
 |_,_,_=>fa cm P sh H t x ix K
def KI (P:Program) (H:GH) (t:TypeId) (x:TV) (K:TV->GH->Option β):Option β:=
 match P.underlying t,x with
 |some (.slice _),.all id=>match H.get id with
  |some (.nest _ _ _ _ _ xs _ _)=>K (.int .i64 xs.length) H
  |_=>RO P H t x K
 |_,_=>RO P H t x K
def Bx:Option TV->Bool
 |some (.raw (.slice none 0 0))=>true
 |_=>false
def CK (no sz:Nat):Nat->List TV->Bool
 |0,_=>true
 |n+1,l=>Bx l[no]? &&CK no sz n (l.drop sz)
def gK (cm:Cm β) (P:Program) (sh:cw) (H:GH) (t:TypeId) (eq:Bool) (l c:TV) (K:TV->GH->Option β):Option β:=
 match (match bK P t with
  |some (e,_)=>An sh.zt e
  |none=>none) with
 |none=>iJ cm P sh H t eq l c K
 |some (no,net)=>match bK P t,l,c with
  |some (e,i),.int .i64 l,.int .i64 c=>
   match zeroOf P e,sh.ty e,sh.ty net with
   |some z,some s,some ne=>bif Nat.beq z.cells.size i.size &&z.cells.toList.all fE &&Nat.beq s.sz i.size &&Iy s no ne &&eq then
    match s.jb (z.cells.toList.map iC) with
    |some zz=>bif (aZ s no ne zz).isEmpty &&Bx (z.cells.toList.map iC)[no]? then
      cm.ec (aQ 0 l &&aQ l c &&aQ (c*(i.bytes+1)) roomy) (K (.all H.n) (H.new (.nest e s no net ne (List.replicate c.toNat zz) .no none))) else none
    |none=>none
    else none
   |_,_,_=>none
  |_,_,_=>none
def Rj (no:Nat) (ps:List (Nat×TV)):Bool:=ps.any fun p=>match p.2.cells[no]? with
 |some (.all _)=>true
 |_=>false
def fI (P:Program) (sh:cw) (H:GH) (t:TypeId) (len:Nat) (ps:List (Nat×TV)) (K:TV->GH->Option β):Option β:=
 match (match bK P t with
  |some (e,_)=>An sh.zt e
  |none=>none) with
 |none=>fl P sh H t len ps K
 |some (no,net)=>match bK P t with
  |some (e,i)=>
   bif Nat.beq len 0 &&(An sh.zt (e+1000000)).isSome ||Rj no ps then fl P sh H t len ps K else
   bif Nat.ble (len*(i.size+1)) (2^24) &&ps.all (fun p=>p.2.ok) then
    match zeroOf P e,sh.ty e,sh.ty net with
    |some z,some s,some ne=>bif Nat.beq z.cells.size i.size &&z.cells.toList.all fE &&Nat.beq s.sz i.size &&Iy s no ne then
     match qf (fun j=>some (j*i.size,i.size)) (Oq (z.cells.toList.map iC) len) ps with
     |some cells=>match iv cells H with
      |some (cells,H)=>match rowsOf s len cells with
       |some xs=>bif xs.all (fun x=>(aZ s no ne x).isEmpty) &&CK no s.sz len cells then K (.all H.n) (H.new (.nest e s no net ne xs .no none)) else none
       |none=>none
      |none=>none
     |none=>none
     else none
    |_,_,_=>none
   else none
  |none=>none
def wj (fi:FI):List Tmp->List TV->GE->GE
 |t::ts,a::as,E=>wj fi ts as (c7 fi t a E)
 |_,_,E=>E
def JJ (sf:eB β) (l:Nat) (args:List TV) (H:GH) (K:TV->GH->Option β):Option β:=
 match H.get l with
 |some (.loop bL .ready _ fi E ps dW body)=>
  bif Nat.beq args.length ps.length then
   sf.code bL fi (some l) dW (wj fi ps args E) H fun x E1 H1=>match x with
    | .normal=>match H1.get l with
     |some (.loop fid1 .ready pd1 fi1 F1 ps1 asg1 body1)=>
      sf.code bL fi (some l) body E1 (H1.put l (.loop fid1 .busy pd1 fi1 F1 ps1 asg1 body1)) fun x _ H2=>
       match H2.get l with
       |some (.loop fid2 _ _ fi2 F2 ps2 asg2 body2)=>match x with
        | .normal=>K (.bool true) (H2.put l (.loop fid2 .ready none fi2 F2 ps2 asg2 body2))
        | .ret=>K (.bool false) (H2.put l (.loop fid2 .done (some .ret) fi2 F2 ps2 asg2 body2))
        | .exit id=>K (.bool false) (H2.put l (.loop fid2 .done (some (.exit id)) fi2 F2 ps2 asg2 body2))
        | .panic _=>none
       |_=>none
     |_=>none
    |_=>none
  else none
 |_=>none
def Xk (c:UInt8) (s:List UInt8):Int:=match Jv c s 0 with |some i=>(i:Int) |none=> -1
def Cy (H:GH) (fn:Func) (args:List TV) (K:TV->GH->Option β):Option β:=
 if fn.origin != "" then none else
 if fn.name == "internal/abi.NoEscape" then
  match args with
  | [x]=>K x H
  |_=>none
 else if fn.name == "internal/bytealg.IndexByteString" then
  match args with
  | [.str s,.byte c]=>K (.int .i64 (Xk c s)) H
  |_=>none
 else if fn.name == "internal/bytealg.CountString" then
  match args with
  | [.str s,.byte c]=>K (.int .i64 (Np c s)) H
  |_=>none
 else none
def CF (P:Program) (sf:eB β) (H:GH) (f:FuncId) (args:List TV) (K:TV->GH->Option β):Option β:=
 match P.funcs[f]? with
 |some fn=>match fn.body with
  |none=>Cy H fn args K
  |some _=>sf.call f args H K
 |none=>none
def lC (f:Int->Int->Int):IntKind->Int->List TV->Option TV
 |k,n,[]=>some (.int k n)
 |k,n,.int k' m::r=>if k=k' then lC f k (f n m) r else none
 |_,_,_=>none
def va (H:GH) (f:Int->Int->Int) (args:List TV) (K:TV->GH->Option β):Option β:=
 match args with
 | .int k n::r=>match lC f k n r with
  |some v=>K v H
  |none=>none
 |_=>none
def oq (cm:Cm β) (H:GH) (x:TV) (K:TV->GH->Option β):Option β:=
 match x with
 | .raw (.slice none 0 0)=>K (.raw (.pointer none)) H
 | .all id=>match H.get id with
  |some (.arr _ _ xs _ _ em)=>match em with
   | .ex=>cm.Vu xs.isEmpty (K (.raw (.pointer none)) H) (K (.iX id 0 0) H)
   |_=>cm.ec (!xs.isEmpty) (K (.iX id 0 0) H)
  |_=>none
 |_=>none
def vA (cm:Cm β) (P:Program) (H:GH) (argTypes:Array TypeId) (p n:TV) (K:TV->GH->Option β):Option β:=
 match p,n with
 | .raw (.pointer none),.int .i64 n=>cm.ec (n==0) (K (.str []) H)
 | .iX id 0 0,.int .i64 n=>match H.get id,argTypes[0]? with
  |some (.arr et e xs _ false em),some pt=>match Sh.same e .byte with
   |some ⟨h⟩=>bif Nat.beq (P.cellsOf et) 1 &&qG P pt et then
     cm.ec (aQ 0 n &&aQ n xs.length &&aQ n roomy) (K (.str ((fM h xs:List UInt8).take n.toNat)) (H.put id (.arr et e xs false false em))) else none
   |none=>none
  |_,_=>none
 |_,_=>none
def vF (cm:Cm β) (P:Program) (sh:cw) (H:GH) (argTypes:Array TypeId) (s x:TV) (K:TV->GH->Option β):Option β:=
 match s,x with
 | .all id,.all id2=>match H.get id,H.get id2 with
  |some (.nest et e no net ne xs em none),some (.nest _ e2 no2 net2 ne2 ys _ none)=>
   match Sh.same e e2,Sh.same ne ne2 with
   |some ⟨hh⟩,some _=>match argTypes[0]?,argTypes[1]? with
    |some t,some xt=>
     if isInt P xt then none else
     match bK P t with
     |some (e',i)=>match zeroOf P e' with
      |some z=>bif Nat.ble 1 i.size &&Nat.beq z.cells.size i.size &&Nat.beq e2.sz i.size &&Nat.beq no no2 &&Nat.beq net net2 &&Nat.beq et e' && !ys.isEmpty &&ys.all (fun y=>(aZ e2 no2 ne2 y).isEmpty) && !Nat.beq id id2 then
        cm.ec (Nat.ble ((xs.length+ys.length)*(i.bytes+1)) roomy) (K (.all H.n) (((H.del id).del id2).new (.nest et e2 no net ne2 (fM hh xs++ys) em none)))
       else none
      |none=>none
     |none=>none
    |_,_=>none
   |_,_=>none
  |_,_=>oX cm P sh H argTypes s x K
 | .raw (.slice none 0 0),.all id2=>match H.get id2 with
  |some (.nest et e no net ne ys _ none)=>match argTypes[0]?,argTypes[1]? with
   |some t,some xt=>
    if isInt P xt then none else
    match bK P t with
    |some (e',i)=>match zeroOf P e' with
     |some z=>bif Nat.ble 1 i.size &&Nat.beq z.cells.size i.size &&Nat.beq e.sz i.size &&Nat.beq et e' && !ys.isEmpty &&ys.all (fun y=>(aZ e no ne y).isEmpty) then
       cm.ec (Nat.ble (ys.length*(i.bytes+1)) roomy) (K (.all H.n) ((H.del id2).new (.nest et e no net ne ys .any none)))
      else none
     |none=>none
    |none=>none
   |_,_=>none
  |_=>oX cm P sh H argTypes s x K
 |_,_=>oX cm P sh H argTypes s x K
def pz (cm:Cm β) (P:Program) (sh:cw) (H:GH) (b:Builtin) (argTypes:Array TypeId) (args:List TV) (K:TV->GH->Option β):Option β:=
 match b,args with
 | .append,[s,x]=>vF cm P sh H argTypes s x K
 | .len,[x]=>match argTypes[0]? with
  |some t=>KI P H t x K
  |none=>none
 | .max,args=>va H (fun x y=>bif aR x y then y else x) args K
 | .min,args=>va H (fun x y=>bif aR y x then y else x) args K
 | .unsafeSliceData,[x]=>oq cm H x K
 | .unsafeString,[p,n]=>bif argTypes[0]?.isSome then vA cm P H argTypes p n K else none
 |_,_=>none
def uQ (cm:Cm β) (P:Program) (sh:cw) (sf:eB β) (Z:Operand->TV) (H:GH) (c:Call) (K:TV->GH->Option β):Option β:=
 match c.callee with
 | .builtin b=>pz cm P sh H b c.argTypes (c.args.toList.map Z) K
 | .value f=>match Z f with
  | .mX l=>JJ sf l (c.args.toList.map Z) H K
  | .fn f first captured=>CF P sf H f (first++c.args.toList.map Z++captured) K
  |_=>none
 | .invoke _ _=>none
def CG:Operand->Operand->Bool
 | .tmp a,.tmp b=>Nat.beq a b
 |_,_=>false
def Zi:Operand->Bool
 | .const _=>true
 |_=>false
def Qg (P:Program) (op:BinOp) (t:TypeId) (x y:Operand) (a b:TV):Option Bool:=
 match P.underlying t,a,b with
 |some (.interface _),.raw .nilIface,.raw .nilIface=>bif Zi x ||Zi y then match op with
   | .eql=>some true
   | .neq=>some false
   |_=>none
  else none
 |some (.interface _),.raw (.iface _ _),.raw .nilIface=>match op with
   | .eql=>some false
   | .neq=>some true
   |_=>none
 |_,_,_=>none
def iW (cm:Cm β) (P:Program) (sh:cw) (sf:eB β) (Z:Operand->TV) (H:GH) (o:Oper) (K:TV->GH->Option β):Option β:=
 match o.op with
 | .move x | .assign x=>K (Z x) H
 | .pick c a b=>LC H (Z c) (Z a) (Z b) K
 | .alloc e=>yn P H e K
 | .box e x=>Wu H e (Z x) K
 | .build t parts=>H5 P H t (parts.toList.map fun p=>(p.1,Z p.2)) K
 | .buildSlice t len parts=>fI P sh H t len (parts.toList.map fun p=>(p.1,Z p.2)) K
 | .load t a=>l8 cm P sh H t (Z a) K
 | .store t a x=>Cw cm P H t (Z a) (Z x) K
 | .nilCheck x=>VT H (Z x) K
 | .binOp op t x y _=>match Qg P op t x y (Z x) (Z y) with
  |some b=>K (.bool b) H
  |none=>S8 cm P H op t (Z x) (Z y) K
 | .unOp op _ x=>X6 H op (Z x) K
 | .convert src dst x=>pA P H src dst (Z x) K
 | .makeFunc (.func f) first captured=>K (.fn f (first.toList.map Z) (captured.toList.map Z)) H
 | .makeSlice t l c=>gK cm P sh H t (CG l c) (Z l) (Z c) K
 | .slice t x lo hi mx=>HM cm P H t (Z x) (lo.map Z) (hi.map Z) (mx.map Z) K
 | .fieldAddr s x f=>iR P H s (Z x) f K
 | .field t x f=>CT P H t (Z x) f K
 | .indexAddr t x ix=>fh cm P sh H t (Z x) (XY (Z ix)) K
 | .index t x ix=>Cr cm P H t (Z x) (XY (Z ix)) K
 | .range t x=>J4 P H t (Z x) K
 | .makeMap t n=>q7 P sh H t (n.map Z) K
 | .lookup t x k ok=>GC P sh H t (Z x) (Z k) ok K
 | .mapUpdate t m k x=>vB cm P H t (Z m) (Z k) (Z x) K
 | .insert t m k x=>vB cm P H t (Z m) (Z k) (Z x) K
 | .next it true=>Q7 cm H (Z it) K
 | .extract tp i=>p8 H (Z tp) i K
 | .makeInterface t x=>oH P H t (Z x) K
 | .typeAssert x _ asserted ok=>mg P H (Z x) asserted ok K
 | .panic x=>Ii H (Z x) K
 | .call c=>uQ cm P sh sf Z H c K
 |_=>none
def nC (fi:FI) (k:Nat) (x:Option β):Option β:=bif oA fi.st k then none else x
def Tz (o:Oper) (j:Nat):Nat:=match o.dst with
 |some d=>5*d+5+j
 |none=>0
def UQ:Operand->Nat->Nat
 | .tmp d,j=>5*d+5+j
 |_,_=>0
def kd (cm:Cm β) (fi:FI) (ops:Array Oper) (o:Oper) (E:GE) (run skip:GE->Option β):Option β:=
 match o.guard with
 |none=>run E
 |some (j,want)=>match (ops[j]?).bind (·.dst) with
  |some d=>match fq fi E d with
   | .bool b=>cm.Vu b (bif want then nC fi (Tz o 1) (run (c7 fi d (.bool true) E)) else nC fi (Tz o 2) (skip (c7 fi d (.bool true) E))) (bif want then nC fi (Tz o 2) (skip (c7 fi d (.bool false) E)) else nC fi (Tz o 1) (run (c7 fi d (.bool false) E)))
   | .raw v=>match v with
    | .bool _ | .chan _=>none
    |_=>skip E
   |_=>none
  |none=>none
def nW (cm:Cm β) (P:Program) (sh:cw) (sf:eB β) (fi:FI) (ops:Array Oper):List Oper->GE->GH->(GE->GH->Option β)->(GE->Value->GH->Option β)->Option β
 | [],E,H,K,_=>K E H
 |o::rest,E,H,K,KP=>
  kd cm fi ops o E (fun E=>iW cm P sh sf (bW fi E) H o fun v H=>Og v (fun w=>KP E w H) (nW cm P sh sf fi ops rest (cz fi E o.dst v) H K KP))
   (fun E=>nW cm P sh sf fi ops rest (cz fi E o.dst (.raw Go.undef)) H K KP)
def B9:List TV->Option (List UInt8)
 | []=>some []
 | .byte c::r=>match B9 r with
  |some l=>some (c::l)
  |none=>none
 |_=>none
def Ps (P:Program) (fi:FI) (E:GE) (o o2:Oper):Option (Tmp×Tmp×List UInt8):=
 match o.op,o2.op,o.dst,o2.dst,o.guard,o2.guard with
 | .buildSlice t len parts,.convert src dst (.tmp d'),some d,some d2,none,none=>
  bif Nat.beq d d' &&Nat.beq src dst &&Nat.beq src t &&Nat.blt d fi.nt then
   match P.underlying src,bK P t with
   |some (.slice e0),some (e,i)=>match P.underlying e0,zeroOf P e with
    |some (.int .u8),some z=>
     bif Nat.ble (len*(i.size+1)) (2^24) &&(parts.toList.map fun p=>(p.1,bW fi E p.2)).all (fun p=>p.2.ok) &&Nat.beq z.cells.size i.size &&z.cells.toList.all fE &&Nat.beq i.size 1 then
      match qf (fun j=>some (j*i.size,i.size)) (Oq (z.cells.toList.map iC) len) (parts.toList.map fun p=>(p.1,bW fi E p.2)) with
      |some cells=>match B9 cells with
       |some bs=>bif Nat.beq bs.length len then some (d,d2,bs) else none
       |none=>none
      |none=>none
     else none
    |_,_=>none
   |_,_=>none
  else none
 |_,_,_,_,_,_=>none
def yo (cm:Cm β) (P:Program) (sh:cw) (sf:eB β) (fi:FI) (ops:Array Oper):List Oper->GE->GH->(GE->GH->Option β)->(GE->Value->GH->Option β)->Option β
 | [],E,H,K,_=>K E H
 | [o],E,H,K,KP=>
  kd cm fi ops o E (fun E=>iW cm P sh sf (bW fi E) H o fun v H=>Og v (fun w=>KP E w H) (K (cz fi E o.dst v) H))
   (fun E=>K (cz fi E o.dst (.raw Go.undef)) H)
 |o::o2::rest,E,H,K,KP=>match Ps P fi E o o2 with
  |some (d,d2,bs)=>yo cm P sh sf fi ops rest (cz fi (cz fi E (some d) (.aC .byte bs (some false) false)) (some d2) (.aC .byte bs (some false) false)) H K KP
  |none=>kd cm fi ops o E (fun E=>iW cm P sh sf (bW fi E) H o fun v H=>Og v (fun w=>KP E w H) (yo cm P sh sf fi ops (o2::rest) (cz fi E o.dst v) H K KP))
   (fun E=>yo cm P sh sf fi ops (o2::rest) (cz fi E o.dst (.raw Go.undef)) H K KP)
def gR:TV->Bool
 | .int _ _ | .byte _ | .str _ | .bool _=>true
 |_=>false
def I9:TV->Bool
 | .agg _=>true
 |t=>gR t
def kc (Z:Operand->TV) (o:Oper):Option (List Nat×Bool):=
 match o.op with
 | .load _ a=>match Z a with
  | .ptr id _=>some ([id],false)
  | .iX id _ _=>some ([id],false)
  | .oD _=>some ([],true)
  |_=>none
 | .binOp _ _ x y _=>bif I9 (Z x) &&I9 (Z y) then some ([],false) else none
 | .lookup _ x _ _=>match Z x with
  | .mp id=>some ([id],false)
  | .raw (.map none)=>some ([],false)
  |_=>none
 | .call c=>match c.callee with
  | .builtin .len=>match c.args.toList with
   | [x]=>match Z x with
    | .str _ | .aC _ _ _ _ | .all _ | .own _ _ _=>some ([],false)
    | .raw (.slice none 0 0)=>some ([],false)
    | .mp id=>some ([id],false)
    |_=>none
   |_=>none
  | .builtin .max=>some ([],false)
  | .builtin .min=>some ([],false)
  | .builtin .unsafeSliceData=>some ([],false)
  |_=>none
 | .convert _ _ x=>match Z x with
  | .all id=>some ([id],false)
  | .own id _ _=>some ([id],false)
  | .int _ _ | .byte _ | .str _=>some ([],false)
  | .aC _ _ _ _=>some ([],true)
  |_=>none
 |_=>none
def mf:TV->Bool
 | .int _ _ | .byte _ | .bool _ | .str _ | .ptr _ _ | .iX _ _ _ | .oD _ | .aC _ _ _ _ | .all _ | .own _ _ _ | .mp _=>true
 | .raw v=>match v with
  | .bool _ | .int _ _ | .string _ | .pointer _ | .slice _ _ _ | .map _ | .nilFunc | .nilIface=>true
  |_=>false
 |_=>false
def LR:TV->Bool
 | .agg cs=>cs.all mf
 | .jj cs=>cs.all mf
 | .fn _ a c=>a.all mf &&c.all mf
 |t=>mf t
def Mb (aY:List Nat):Operand->Bool
 | .tmp t=> !oA aY t
 |_=>false
def vb (Z:Operand->TV) (aY:List Nat) (o:Oper):Bool:=
 match o.op with
 | .move x | .assign x=>Mb aY x
 | .indexAddr _ x ix=>Mb aY x &&(match Z x,Z ix with
  | .aC _ _ _ _,.int _ _=>true
  |_,_=>false)
 | .fieldAddr _ x _=>Mb aY x &&(match Z x with
  | .oD _=>true
  |_=>false)
 |_=>false
def ve (Z:Operand->TV) (aY:List Nat) (o:Oper):Bool:=
 match o.op with
 | .load _ a=>Mb aY a &&(match Z a with
  | .oD _=>true
  |_=>false)
 |_=>false
def jx (b:Bool) (d:Option Tmp) (aY:List Nat):List Nat:=
 bif b then aY else match d with
  |some d=>d::aY
  |none=>aY
structure WL where
 i:Nat
 ids:List Nat
 st:List (Option Nat)
structure Ul where
 E:GE
 H:GH
 bP:List (Nat×Option GH)
 reads:List WL
 aY:List Nat
 pn:List Nat
 po:List (Nat×Nat)
def vT:List (Option Nat)->List (Option Nat)->Bool
 | [],[]=>true
 |some a::r,some b::r'=>Nat.beq a b &&vT r r'
 |_,_=>false
def oI (H:GH) (ids:List Nat) (p:Bool) (m:Nat):List (Nat×Option GH)->Bool
 | []=>true
 |(c,q)::rest=>(m.testBit c ||(match q with
  |some Hc=> !p &&vT (ids.map Hc.aT) (ids.map H.aT)
  |none=>false)) &&oI H ids p m rest
def lV (H:GH) (m:Nat):List WL->Bool
 | []=>true
 |r::rest=>(m.testBit r.i ||vT r.st (r.ids.map H.aT)) &&lV H m rest
def pC (m:Nat):List (Nat×Option GH)->Bool
 | []=>true
 |(c,_)::rest=>m.testBit c &&pC m rest
def Rb:Option bI->Bool
 |some (.map ..)=>true
 |_=>false
def jd (po:List (Nat×Nat)):List Nat->List Nat
 | []=> []
 |j::r=>match po.find? (fun p=>Nat.beq p.1 j) with
  |some p=>p.2::jd po r
  |none=>jd po r
def Jk (H:GH) (po:List (Nat×Nat)) (js:List Nat):Bool:=js.all fun j=>match po.find? (fun p=>Nat.beq p.1 j) with
 |some p=>Rb (H.get p.2)
 |none=>false
def Rt (Z:Operand->TV) (H:GH) (po:List (Nat×Nat)) (js:List Nat) (o:Oper):Bool:=
 match o.op with
 | .store _ a _=>match Z a with
  | .ptr id _=>match H.get id with
   |some (.cells _ _ true)=>Jk H po js
   |_=>false
  |_=>false
 |_=>false
def tj:List Nat->GH->GH
 | [],H=>H
 |k::r,H=>tj r (H.del k)
def rD (cm:Cm β) (P:Program) (sh:cw) (sf:eB β) (fi:FI) (ops:Array Oper) (i:Nat) (o:Oper) (m:Nat) (s:Ul) (K:Ul->Option β) (KP:Value->GH->Option β):Option β:=
 kd cm fi ops o s.E (fun E=>
  match kindOf P o with
  | .pure=>bif vb (bW fi E) s.aY o then iW cm P sh sf (bW fi E) s.H o fun v H=>K { s with E:=cz fi E o.dst v,H:=H }
    else iW cm P sh sf (bW fi E) s.H o fun v H=>K { s with E:=cz fi E o.dst v,H:=H,aY:=jx (gR v) o.dst s.aY }
  | .read=>bif ve (bW fi E) s.aY o then
     iW cm P sh sf (bW fi E) s.H o fun v H=>bif LR v then K { s with E:=cz fi E o.dst v,H:=H,reads:=⟨i,[],[]⟩::s.reads } else none
    else match kc (bW fi E) o with
   |some (ids,p)=>bif (s.pn.isEmpty ||(ids.isEmpty && !p)) &&oI s.H ids p m s.bP then
     iW cm P sh sf (bW fi E) s.H o fun v H=>bif LR v then K { s with E:=cz fi E o.dst v,H:=H,reads:=⟨i,ids,ids.map s.H.aT⟩::s.reads,aY:=jx (gR v) o.dst s.aY } else none
    else none
   |none=>none
  | .fresh=>match o.op with
   | .buildSlice _ _ _=>iW cm P sh sf (bW fi E) s.H o fun v H=>K { s with E:=cz fi E o.dst v,H:=H,aY:=jx (gR v) o.dst s.aY,pn:=i::s.pn }
   | .alloc _=>iW cm P sh sf (bW fi E) s.H o fun v H=>K { s with E:=cz fi E o.dst v,H:=H,aY:=jx (gR v) o.dst s.aY,pn:=i::s.pn }
   | .makeSlice _ _ _=>iW cm P sh sf (bW fi E) s.H o fun v H=>K { s with E:=cz fi E o.dst v,H:=H,aY:=jx (gR v) o.dst s.aY,pn:=i::s.pn }
   | .makeMap _ _=>iW cm P sh sf (bW fi E) s.H o fun v H=>K { s with E:=cz fi E o.dst v,H:=H,aY:=jx (gR v) o.dst s.aY,pn:=i::s.pn,po:=(i,s.H.n)::s.po }
   |_=>none
  | .chain=>bif pC m s.bP then
    bif s.pn.all (fun j=>m.testBit j) then
    iW cm P sh sf (bW fi E) s.H o fun v H=>Og v (fun w=>KP w H) (
     bif lV H m s.reads then K { E:=cz fi E o.dst v,H:=H,bP:=(i,bif s.pn.isEmpty then some s.H else none)::s.bP,reads:=s.reads,aY:=jx (gR v) o.dst s.aY,pn:= [],po:=s.po } else none)
    else bif Rt (bW fi E) s.H s.po (s.pn.filter fun j=> !m.testBit j) o then
    iW cm P sh sf (bW fi E) s.H o fun v H=>
     bif Jk H s.po (s.pn.filter fun j=> !m.testBit j) &&lV (tj (jd s.po (s.pn.filter fun j=> !m.testBit j)) H) m s.reads then K { E:=cz fi E o.dst v,H:=H,bP:=(i,none)::s.bP,reads:=s.reads,aY:=jx (gR v) o.dst s.aY,pn:=s.pn.filter fun j=> !m.testBit j,po:=s.po } else none
    else none
   else none)
  (fun E=>K { s with E:=cz fi E o.dst (.raw Go.undef) })
def mS (c:Nat):List Oper->List Nat->Bool
 | [],_=>true
 |_::_,[]=>false
 |_::r,m::ms=>m.testBit c &&mS c r ms
def mj (fi:FI):List Oper->GE->GE
 | [],E=>E
 |o::rest,E=>mj fi rest (cz fi E o.dst .undef)
def pg (cm:Cm β) (P:Program) (sh:cw) (sf:eB β) (fi:FI) (ops:Array Oper):List Oper->Nat->List Nat->Ul->(Ul->Option β)->(Value->GH->Option β)->Option β
 | [],_,_,s,K,_=>K s
 |_::_,_,[],_,_,_=>none
 |o::rest,i,m::ms,s,K,KP=>rD cm P sh sf fi ops i o m s (fun s=>pg cm P sh sf fi ops rest (i+1) ms s K KP) (fun w H=>bif mS i rest ms then KP w H else none)
def QC (cm:Cm β) (P:Program) (sh:cw) (sf:eB β) (fi:FI) (ops:Array Oper) (E:GE) (H:GH) (K:GE->GH->Option β) (KP:GE->Value->GH->Option β):Option β:=
 bif jC ops (cU ops.toList []) then
  pg cm P sh sf fi ops ops.toList 0 (cU ops.toList []) ⟨E,H,[],[],[],[],[]⟩ (fun s=>K s.E s.H) (fun w H=>KP (mj fi ops.toList E) w H)
 else none
def dG:Code->Nat
 | .region id _ _=>id
 | .seq a _=>dG a
 | .block _ c=>dG c
 | .scope c=>dG c
 | .loop c=>dG c
 |_=>0
def quiet (P:Program) (sh:cw) (o:Oper):Bool:=
 match o.op with
 | .move _ | .assign _ | .pick .. | .binOp .. | .unOp .. | .index .. | .field .. | .fieldAddr .. | .indexAddr .. | .extract .. =>true
 | .load t _=>sh.zt.isEmpty || !PA P t
 | .convert src _ _=>match P.underlying src with
  |some (.int _)=>true
  |_=>false
 | .call c=>match c.callee with
  | .builtin .len=>true
  |_=>false
 |_=>false
def Du (fi:FI):List Oper->List Tmp
 | []=> []
 |o::r=>match o.dst with
  |some d=>match cls fi d with
   | .loc=>d::Du fi r
   |_=>Du fi r
  |none=>Du fi r
def Q3 (P:Program) (sh:cw) (fi:FI) (ops:Array Oper):Option Tmp:=
 bif ops.toList.any (fun o=>o.guard.isSome) &&ops.toList.all (quiet P sh) then match Du fi ops.toList with
  | [d]=>some d
  | []=>match ops.toList.getLast?.bind (·.dst) with
   |some d=>match cls fi d with
    | .tmp=>some d
    |_=>none
   |none=>none
  |_=>none
 else none
def wi:TV->Option Bool
 | .bool b=>some b
 |_=>none
def Ac (fi:FI) (c:Operand) (b:Bool) (E:GE):GE:=match c with
 | .tmp t=>c7 fi t (.bool b) E
 |_=>E
def Ca:eB β:=⟨fun _ _ _ _ _ _ _=>none,fun _ _ _ _=>none,fun _ _ _ d _ _ _=>d⟩
def gC (cx:Cx β) (P:Program) (sh:cw) (sf:eB β) (bL:Nat) (fi:FI) (ro:Option Nat):Code->GE->GH->(X->GE->GH->Option β)->Option β
 | .skip,E,H,K=>K .normal E H
 | .region id ops false,E,H,K=>nC fi (5*id+5) <|match Q3 P sh fi ops with
  |some d=>cx.jn (fun cm=>nW cm P sh Ca fi ops ops.toList E.reset H (fun E _=>wi (fq fi E d)) fun _ _ _=>none) fun b=>K .normal (c7 fi d (.bool b) E.reset) H
  |none=>yo cx.cm P sh sf fi ops ops.toList E.reset H (fun E H=>K .normal E H) fun E w H=>K (.panic w) E H
 | .region id ops true,E,H,K=>nC fi (5*id+5) <|QC cx.cm P sh sf fi ops E.reset H (fun E H=>K .normal E H) fun E w H=>K (.panic w) E H
 | .seq a b,E,H,K=>gC cx P sh sf bL fi ro a E H fun x E H=>match x with
  | .normal=>gC cx P sh sf bL fi ro b E H K
  |x=>K x E H
 | .cond c a b,E,H,K=>match bW fi E c with
  | .bool t=>cx.cm.Vu t (nC fi (UQ c 3) (gC cx P sh sf bL fi ro a (Ac fi c true E) H K)) (nC fi (UQ c 4) (gC cx P sh sf bL fi ro b (Ac fi c false E) H K))
  |_=>none
 | .block id c,E,H,K=>gC cx P sh sf bL fi ro c E H fun x E H=>match x with
  | .exit j=>bif Nat.beq j id then K .normal E H else K (.exit j) E H
  |x=>K x E H
 | .loop c,E,H,K=>sf.loop bL (dG c) ro (gC cx P sh sf bL fi ro c E H fun x E H=>match x with
   | .normal=>sf.code bL fi ro (.loop c) E H K
   |x=>K x E H) E H K
 | .rangeFunc f ps dW body,E,H,K=>
  bif (match ro with
   |none=>true
   |some l=>match H.get l with
    |some (.loop ..)=>true
    |_=>false) then
   match bW fi E f with
   | .fn g first captured=>
    sf.call g (first++ [TV.mX H.n]++captured) (H.new (.loop bL .ready none fi E ps.toList dW body)) fun t H1=>Og t (fun w=>K (.panic w) E H1) (
     match H1.get H.n with
     |some (.loop bL st pd fi2 E2 ps dW body)=>
      bif st==LoopState.busy then none else
      match pd with
      |none=>K .normal E (H1.put H.n (.loop bL .exhausted pd fi2 E2 ps dW body))
      |some .ret=>K .ret E (H1.put H.n (.loop bL .exhausted pd fi2 E2 ps dW body))
      |some (.exit id)=>K (.exit id) E (H1.put H.n (.loop bL .exhausted pd fi2 E2 ps dW body))
      |_=>none
     |_=>none)
   |_=>none
  else none
 | .exit id,E,H,K=>K (.exit id) E H
 | .scope c,E,H,K=>gC cx P sh sf bL fi ro c E H K
 | .label _,E,H,K=>K .normal E H
 | .goto _,_,_,_=>none
 | .ret,E,H,K=>K .ret E H
 | .refuse _,_,_,_=>none
def TO (P:Program) (fi:FI) (E:GE) (H:GH):ResultVar->Option TV
 | .tmp t=>some (fq fi E t)
 | .cell a t=>match fq fi E a with
  | .ptr id off=>match H.get id with
   |some (.cells _ cs _)=>bif Nat.ble off cs.length then fN P t (cs.drop off) else none
   |_=>none
  |_=>none
def AZ (P:Program) (fi:FI) (E:GE) (H:GH):List ResultVar->Option (List TV)
 | []=>some []
 |r::rs=>match TO P fi E H r,AZ P fi E H rs with
  |some v,some vs=>some (v::vs)
  |_,_=>none
def vV:Nat->List TV->Jl
 |_,[]=> .e
 |i,v::r=> .c i v (vV (i+1) r)
def isRec (o:Oper):Bool:=match o.op with
 | .call { callee:= .builtin .recover,.. }=>true
 |_=>false
def xw (cm:Cm β) (P:Program) (sh:cw) (sf:eB β) (fi:FI) (ops:Array Oper):List Oper->GE->GH->Iv.Mode->(GE->GH->Iv.Mode->Option β)->Option β
 | [],E,H,u,K=>K E H u
 |o::rest,E,H,u,K=>
  kd cm fi ops o E (fun E=>bif isRec o then (match u with
    | .panicking v false=>xw cm P sh sf fi ops rest (cz fi E o.dst (.raw v)) H (.panicking v true) K
    |u=>xw cm P sh sf fi ops rest (cz fi E o.dst (.raw .nilIface)) H u K)
   else iW cm P sh sf (bW fi E) H o fun v H=>Og v (fun _=>none) (xw cm P sh sf fi ops rest (cz fi E o.dst v) H u K))
   (fun E=>xw cm P sh sf fi ops rest (cz fi E o.dst (.raw Go.undef)) H u K)
def gL:Code->Bool
 | .seq a b=>gL a &&gL b
 | .cond _ a b=>gL a &&gL b
 | .block _ a=>gL a
 | .scope a=>gL a
 | .loop _ | .rangeFunc .. =>false
 |_=>true
def vz (cx:Cx β) (P:Program) (sh:cw) (hint:Hint) (sf:eB β) (g:FuncId) (args:List TV) (u:Iv.Mode) (H:GH) (K:Iv.Mode->GH->Option β):Option β:=
 match P.funcs[g]? with
 |some fn=>match fn.body with
  |some (.seq (.region _ ops false) rest)=>
   bif GB ops && !calls ops &&Nat.ble args.length fn.ntmps &&fn.results.isEmpty &&gL rest then
    xw cx.cm P sh sf (cO hint g fn) ops ops.toList ⟨vV 0 args,.e⟩ H u fun E H u=>
     gC cx P sh sf g (cO hint g fn) none rest E H fun x _ H=>match x with
      | .normal=>K u H
      | .ret=>K u H
      |_=>none
   else none
  |_=>none
 |none=>none
def Dm (ops:Array Oper):Option (Oper×Operand×Array Operand):=match ops.toList.getLast? with
 |some o=>match o.op,o.guard with
  | .defer c,none=>match c.callee with
   | .value f=>some (o,f,c.args)
   |_=>none
  |_,_=>none
 |none=>none
def pe:Code->Option (List Code×Array Oper×Oper×Operand×Array Operand×Code)
 | .seq (.region id ops dr) rest=>match (bif dr then none else Dm ops) with
  |some (o,f,xs)=>some ([],ops,o,f,xs,rest)
  |none=>match pe rest with
   |some (pre,q)=>some (.region id ops dr::pre,q)
   |none=>none
 |_=>none
def Wr (cx:Cx β) (P:Program) (sh:cw) (sf:eB β) (bL:Nat) (fi:FI):List Code->GE->GH->(GE->GH->Option β)->Option β
 | [],E,H,K=>K E H
 |c::r,E,H,K=>gC cx P sh sf bL fi none c E H fun x E H=>match x with
  | .normal=>Wr cx P sh sf bL fi r E H K
  |_=>none
def FQ (P:Program) (fi:FI) (fn:Func) (E:GE) (H:GH) (K:TV->GH->Option β):Option β:=match AZ P fi E H fn.results.toList with
 |some [v]=>K v H
 |some vs=>K (.jj vs) H
 |none=>none
def B6 (u:Iv.Mode) (H:GH) (K:TV->GH->Option β) (k:Option β):Option β:=match u with
 | .panicking v false=>K (.HW v) H
 |_=>k
def JT (cx:Cx β) (P:Program) (sh:cw) (hint:Hint) (sf:eB β) (f:FuncId) (fn:Func) (pre:List Code) (ops:Array Oper) (o:Oper) (x:Operand) (xs:Array Operand) (rest:Code) (args:List TV) (H:GH) (K:TV->GH->Option β):Option β:=
 Wr cx P sh sf f (cO hint f fn) pre ⟨vV 0 args,.e⟩ H fun E H=>nW cx.cm P sh sf (cO hint f fn) ops ops.toList.dropLast E.reset H (fun E H=>match bW (cO hint f fn) E x with
  | .fn g first captured=>
   gC cx P sh sf f (cO hint f fn) none rest (cz (cO hint f fn) E o.dst (.raw Go.undef)) H fun y E1 H=>match y with
    | .normal | .ret=>vz cx P sh hint sf g (first++xs.toList.map (bW (cO hint f fn) E)++captured) .returning H fun u H=>B6 u H K (FQ P (cO hint f fn) fn E1 H K)
    | .panic w=>vz cx P sh hint sf g (first++xs.toList.map (bW (cO hint f fn) E)++captured) (.panicking w false) H fun u H=>B6 u H K (FQ P (cO hint f fn) fn E1 H K)
    |_=>none
  |_=>none) fun _ _ _=>none
def zS (cx:Cx β) (P:Program) (sh:cw) (hint:Hint) (sf:eB β) (f:FuncId) (args:List TV) (H:GH) (K:TV->GH->Option β):Option β:=
 match P.funcs[f]? with
 |some fn=>match fn.body with
  |some c=>bif Nat.ble args.length fn.ntmps then
    match pe c with
    |some (pre,ops,o,x,xs,rest)=>JT cx P sh hint sf f fn pre ops o x xs rest args H K
    |none=>gC cx P sh sf f (cO hint f fn) none c ⟨vV 0 args,.e⟩ H fun x E H=>match x with
     | .normal | .ret=>FQ P (cO hint f fn) fn E H K
     | .panic w=>K (.HW w) H
     |_=>none
   else none
  |none=>none
 |none=>none
structure td (β:Type) where
 call:FuncId->Option (Nat->List TV->GH->(TV->GH->Option β)->Option β)
 loop:Nat->Nat->Option Nat->Option (Nat->GE->GH->(X->GE->GH->Option β)->Option (Option β))
def jf:Nat:=1048576
def nx:List Nat->FuncId->Option (Nat×Nat)
 |k::f'::g::r,f=>bif Nat.beq f f' then some (k,g) else nx r f
 |_,_=>none
def lS:List Int:= [1,10,100,1000,10000,100000,1000000,10000000,100000000,1000000000,10000000000,100000000000,1000000000000,10000000000000,100000000000000,1000000000000000,10000000000000000,100000000000000000,1000000000000000000,10000000000000000000]
def CR (n:Int):Bool:=aQ (-9223372036854775808) n &&aQ n 9223372036854775807
def CD (I:IH) (g:Nat) (vs:List Value):Prop:=∃ cs et fz ex sd,I.get g=some (.cells cs et fz ex sd)/\ex=true/\cs.length=vs.length/\∀ (i:Nat) (v:Value),vs[i]? =some v->cs[i]? =some v
def wG (cs:List UInt8):Bool:=Nat.ble 2 cs.length &&Nat.ble cs.length 4294967280 &&cs.all fun c=>Nat.blt c.toNat 128
def rS:List UInt8:=Go.Pinned.utf8FirstZ.map UInt8.ofNat
def M7:List (UInt8×UInt8):= [(128,191),(160,191),(128,159),(144,191),(128,143),(0,0),(0,0),(0,0),(0,0),(0,0),(0,0),(0,0),(0,0),(0,0),(0,0),(0,0)]
def sO (c:UInt8):Value:= .int .u8 c.toNat
open Classical in
def jK (k g:Nat) (args:List Value) (I:IH):Option Value:=
 match k,args with
 |0,[]=>some (.bool true)
 |1,[.int .i64 n]=>if CR n=true/\g<bQ/\CD I g (lS.map fun z=> .int .u64 z) then some (.string (ba (Lib.itoa n))) else none
 |2,[.string s,.string cs]=>bif wG (bl cs) then some (.string (ba (Lib.trimLeftS (bl s) (bl cs)))) else none
 |3,[.string s]=>if Nat.ble (bl s).length 9223372036854775807=true/\(g / 1000<bQ/\g%1000<bQ)/\CD I (g / 1000) (rS.map sO)/\CD I (g%1000) (M7.flatMap fun p=> [sO p.1,sO p.2]) then some (.bool (Lib.validD (bl s))) else none
 |_,_=>none
def LU (k g:Nat) (args:List Value) (I:IH):Option (Iv.End×IH):=(jK k g args I).map fun v=>(.returned v,I)
def cH (hint:Hint):Iv.Spec:=fun f args I=>match nx (hint jf) f with
 |some (k,g)=>LU k g args I
 |none=>none
def Wn (sh:cw) (g:Nat):Bool:=
 match sh.tb g with
 |some ⟨.int .u64,xs⟩=>(xs:List Int)==lS
 |_=>false
def W7 (sh:cw) (g1 g2:Nat):Bool:=
 (match sh.tb g1 with
 |some ⟨.byte,xs⟩=>(xs:List UInt8)==rS
 |_=>false) &&(match sh.tb g2 with
 |some ⟨.cons .byte .byte,ys⟩=>(ys:List (UInt8×UInt8))==M7
 |_=>false)
def Aj (cm:Cm β) (sh:cw) (k g:Nat) (args:List TV) (H:GH) (K:TV->GH->Option β):Option (Option β):=
 match k,args with
 |0,[]=>some (K (.bool true) H)
 |1,[.int .i64 n]=>some (bif Nat.blt g bQ &&Wn sh g then cm.ec (CR n) (K (.str (Lib.itoa n)) H) else none)
 |2,[.str s,.str cs]=>bif wG cs then some (K (.str (Lib.trimLeftS s cs)) H) else none
 |3,[.str s]=>some (bif Nat.blt (g / 1000) bQ &&(Nat.blt (g%1000) bQ &&W7 sh (g / 1000) (g%1000)) then cm.ec (Nat.ble s.length 9223372036854775807) (K (.bool (Lib.validD s)) H) else none)
 |_,_=>some none
def RJ:Nat:=1048577
def Ft:Nat:=1048578
def RC:List Nat->Nat->Nat->Bool
 |a::b::r,x,y=>bif Nat.beq a x &&Nat.beq b y then true else RC r x y
 |_,_,_=>false
def gv (cx:Cx β) (P:Program) (sh:cw) (hint:Hint) (hk:td β):Nat->eB β
 |0=>⟨fun _ _ _ _ _ _ _=>none,fun _ _ _ _=>none,fun bL r ro d E H K=>bif RC (hint Ft) bL r then none else match hk.loop bL r ro with
   |some f=>match f 0 E H K with
    |some r=>r
    |none=>d
   |none=>d⟩
 |n+1=>⟨gC cx P sh (gv cx P sh hint hk n),fun f args H K=>match nx (hint jf) f with
   |some (k,g)=>match Aj cx.cm sh k g args H K with
    |some r=>r
    |none=>match hk.call f with
     |some h=>h n args H K
     |none=>zS cx P sh hint (gv cx P sh hint hk n) f args H K
   |none=>bif oA (hint RJ) f then none else match hk.call f with
   |some h=>h n args H K
   |none=>zS cx P sh hint (gv cx P sh hint hk n) f args H K,
  fun bL r ro d E H K=>bif RC (hint Ft) bL r then none else match hk.loop bL r ro with
   |some f=>match f (n+1) E H K with
    |some r=>r
    |none=>d
   |none=>d⟩
end
end Go.Gv
