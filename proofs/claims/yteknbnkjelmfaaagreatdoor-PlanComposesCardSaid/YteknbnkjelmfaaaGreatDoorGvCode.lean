/- The pure evaluator (the second part): calls, regions, code. -/
import Derived.Test.YteknbnkjelmfaaaGreatDoorGvBase
import Derived.Lib.ItoaNum
import Derived.Lib.SlTrimSet
import Derived.Lib.ValidU
import GoSem.PinnedTables
set_option linter.unusedSimpArgs false
set_option linter.unusedVariables false
namespace Go.Gv
open Go Go.Iv
noncomputable section
variable {Z:Type}
structure fD (Z:Type) where
 code:Nat->FI->Option Nat->Code->GE->GH->(X->GE->GH->Option Z)->Option Z
 call:FuncId->List TV->GH->(TV->GH->Option Z)->Option Z
 loop:Nat->Nat->Option Nat->Option Z->GE->GH->(X->GE->GH->Option Z)->Option Z
def lI (H:GH) (id:Nat):GH:=match H.get id with
 |some (.nest et e no net ne xs em (some (i,n,x)))=>match H.get n with
  |some (.arr net' ne' ys true false .ex)=>bif Nat.beq net' net then (match Sh.same ne' ne with
    |some ⟨h⟩=>(H.del n).put id (.nest et e no net ne (xs.set i (dj e no ne x (fg h ys))) em none)
    |none=>H) else H
  |_=>H
 |_=>H
def Ay (cm:Cm Z) (P:Program) (H:GH) (t:TypeId) (id i off:Nat) (K:TV->GH->Option Z):Option Z:=
 match H.get id with
 |some (.nest _ e no _ _ xs _ _)=>bif Nat.ble off e.sz then cm.opt xs[i]? fun x=>match eO P t (((e.cV x).set no .undef).drop off) with
   |some v=>K v H
   |none=>none
  else none
 |_=>none
def R3 (cm:Cm Z) (H:GH) (id i off:Nat) (K:TV->GH->Option Z):Option Z:=
 match H.get id with
 |some (.nest et e no net ne xs em none)=>bif Nat.beq off no then cm.opt xs[i]? fun x=>
   K (.all H.n) ((H.put id (.nest et e no net ne xs em (some (i,H.n,x)))).new (.arr net ne (aL e no ne x) true false .ex))
  else none
 |_=>none
def yD (H:GH) (id:Nat):Option Nat:=match H.get id with
 |some (.nest _ _ no _ _ _ _ _)=>some no
 |_=>none
def DV (H:GH) (_:Nat):GH:=H
def qC (P:Program) (sh:bU) (H:GH) (t:TypeId) (r:Option TV) (K:TV->GH->Option Z):Option Z:=lK P sh H t r K
def Di (P:Program) (sh:bU) (H:GH) (t:TypeId) (x k:TV) (ok:Bool) (K:TV->GH->Option Z):Option Z:=Af P sh H t x k ok K
def vh (cm:Cm Z) (P:Program) (H:GH) (t:TypeId) (m k v:TV) (K:TV->GH->Option Z):Option Z:=zm cm P H t m k v K
def KM (P:Program) (t:TypeId):Bool:=match P.underlying t with
 |some (.slice _)=>true
 |_=>false
def BL (sh:bU) (t:TypeId):Bool:=sh.tF.any fun p=>Nat.beq p.1 t
def Fz (cm:Cm Z) (P:Program) (H:GH) (t:TypeId) (id i:Nat) (K:TV->GH->Option Z):Option Z:=
 match H.get id with
 |some (.nest et e no net ne xs em none)=>cm.opt xs[i]? fun x=>match eO P t ((e.cV x).set no (.all H.n)) with
   |some v=>K v ((H.put id (.nest et e no net ne xs em (some (i,H.n,x)))).new (.arr net ne (aL e no ne x) true false .ex))
   |none=>none
 |_=>none
def lC (cm:Cm Z) (P:Program) (sh:bU) (H:GH) (t:TypeId) (a:TV) (K:TV->GH->Option Z):Option Z:=
 match sh.tF with
 | []=>ny cm P H t a K
 |_=>match a with
  | .iO id i off=>match yD H id with
   |some no=>bif KM P t &&Nat.beq off no then match gI P t with
     |some false=>R3 cm (lI H id) id i off K
     |_=>none
    else bif BL sh t &&Nat.beq off 0 then Fz cm P (lI H id) t id i K
    else Ay cm P H t id i off K
   |none=>ny cm P H t a K
  |_=>ny cm P H t a K
def Nx (cm:Cm Z) (H:GH) (id i m:Nat) (K:TV->GH->Option Z):Option Z:=
 match H.get id,H.get m with
 |some (.nest et e no net ne xs em ho),some (.arr net' ne' ys true false em')=>
  bif Nat.beq net' net then match Sh.same ne' ne with
   |some ⟨h⟩=>cm.eF (match em' with
     | .ex=>true
     |_=> !ys.isEmpty) (match ho with
    |none=>cm.opt xs[i]? fun x=>K .undef ((H.del m).put id (.nest et e no net ne (xs.set i (dj e no ne x (fg h ys))) em none))
    |some (j,n,x)=>bif Nat.beq n m ||(H.get n).isNone then cm.eF (Nat.beq i j) (K .undef ((H.del m).put id (.nest et e no net ne (xs.set i (dj e no ne x (fg h ys))) em none))) else none)
   |none=>none
  else none
 |_,_=>none
def yH (cm:Cm Z) (H:GH) (id i off:Nat) (vs:List TV) (K:TV->GH->Option Z):Option Z:=
 match H.get id with
 |some (.nest et e no net ne xs em none)=>cm.opt xs[i]? fun x=>
  bif (Nat.ble (off+vs.length) no ||Nat.blt no off) &&Nat.ble (off+vs.length) e.sz && !vs.isEmpty then
   match e.jE (dO (e.cV x) off vs) with
   |some y=>K .undef (H.put id (.nest et e no net ne (xs.set i y) em none))
   |none=>none
  else none
 |_=>none
def vR:TV->Bool
 | .int _ _ | .byte _ | .bool _ | .str _=>true
 |_=>false
def AI (cm:Cm Z) (P:Program) (H:GH) (t:TypeId) (a v:TV) (K:TV->GH->Option Z):Option Z:=
 match a with
 | .iO id i off=>match yD H id with
  |some no=>match P.info? t with
   |some inf=>bif Nat.beq v.cells.length inf.size &&v.cells.all TV.one then
     bif Nat.beq off no &&Nat.beq v.cells.length 1 then match v with
      | .all m=>Nx cm H id i m K
      |_=>none
     else bif v.cells.all vR then yH cm (lI H id) id i off v.cells K else none
    else none
   |none=>none
  |none=>yU cm P H t a v K
 |_=>yU cm P H t a v K
def fa (cm:Cm Z) (P:Program) (sh:bU) (H:GH) (t:TypeId) (x ix:TV) (K:TV->GH->Option Z):Option Z:=
 match P.underlying t,x,ix with
 |some (.slice e),.all id,.int _ i=>match P.info? e,H.get id with
  |some inf,some (.nest _ s _ _ _ xs _ _)=>bif Nat.beq s.sz inf.size then cm.eF (ak 0 i &&aD i xs.length) (K (.iO id i.toNat 0) H) else none
  |_,_=>eP cm P sh H t x ix K
 |_,_,_=>eP cm P sh H t x ix K
def Gz (P:Program) (H:GH) (t:TypeId) (x:TV) (K:TV->GH->Option Z):Option Z:=
 match P.underlying t,x with
 |some (.slice _),.all id=>match H.get id with
  |some (.nest _ _ _ _ _ xs _ _)=>K (.int .i64 xs.length) H
  |_=>MQ P H t x K
 |_,_=>MQ P H t x K
def DT:Option TV->Bool
 |some (.raw (.slice none 0 0))=>true
 |_=>false
def zJ (no sz:Nat):Nat->List TV->Bool
 |0,_=>true
 |n+1,l=>DT l[no]? &&zJ no sz n (l.drop sz)
def rP (cm:Cm Z) (P:Program) (sh:bU) (H:GH) (t:TypeId) (eq:Bool) (l c:TV) (K:TV->GH->Option Z):Option Z:=ot cm P sh H t eq l c K
def Q2 (no:Nat) (ps:List (Nat×TV)):Bool:=ps.any fun p=>match p.2.cells[no]? with
 |some (.all _)=>true
 |_=>false
def kO (P:Program) (sh:bU) (H:GH) (t:TypeId) (len:Nat) (ps:List (Nat×TV)) (K:TV->GH->Option Z):Option Z:=
 match (match cu P t with
  |some (e,_)=>GU sh.tF e
  |none=>none) with
 |none=>eg P sh H t len ps K
 |some (no,net)=>match cu P t with
  |some (e,i)=>
   bif Nat.beq len 0 &&(GU sh.tF (e+1000000)).isSome ||Q2 no ps then eg P sh H t len ps K else
   bif Nat.ble (len*(i.size+1)) (2^24) &&ps.all (fun p=>p.2.ok) then
    match zeroOf P e,sh.ty e,sh.ty net with
    |some z,some s,some ne=>bif Nat.beq z.cells.size i.size &&z.cells.toList.all fQ &&Nat.beq s.sz i.size &&JA s no ne then
     match oO (fun j=>some (j*i.size,i.size)) (M6 (z.cells.toList.map jW) len) ps with
     |some cells=>match ik cells H with
      |some (cells,H)=>match rowsOf s len cells with
       |some xs=>bif xs.all (fun x=>(aL s no ne x).isEmpty) &&zJ no s.sz len cells then K (.all H.n) (H.new (.nest e s no net ne xs .no none)) else none
       |none=>none
      |none=>none
     |none=>none
     else none
    |_,_,_=>none
   else none
  |none=>none
def uG (fi:FI):List Tmp->List TV->GE->GE
 |t::ts,a::as,E=>uG fi ts as (cO fi t a E)
 |_,_,E=>E
def DG (sf:fD Z) (l:Nat) (args:List TV) (H:GH) (K:TV->GH->Option Z):Option Z:=
 match H.get l with
 |some (.loop bx .ready _ fi E ps eo body)=>
  bif Nat.beq args.length ps.length then
   sf.code bx fi (some l) eo (uG fi ps args E) H fun x E1 H1=>match x with
    | .normal=>match H1.get l with
     |some (.loop fid1 .ready pd1 fi1 F1 ps1 asg1 body1)=>
      sf.code bx fi (some l) body E1 (H1.put l (.loop fid1 .busy pd1 fi1 F1 ps1 asg1 body1)) fun x _ H2=>
       match H2.get l with
       |some (.loop fid2 _ _ fi2 F2 ps2 asg2 body2)=>match x with
        | .normal=>K (.bool true) (H2.put l (.loop fid2 .ready none fi2 F2 ps2 asg2 body2))
        | .ret=>K (.bool false) (H2.put l (.loop fid2 .done (some .ret) fi2 F2 ps2 asg2 body2))
        | .exit id=>K (.bool false) (H2.put l (.loop fid2 .done (some (.exit id)) fi2 F2 ps2 asg2 body2))
        | .panic _=>none
       |_=>none
     |_=>none
    |_=>none
  else none
 |_=>none
def oW (c:UInt8) (s:List UInt8):Int:=match s9 c s 0 with |some i=>(i:Int) |none=> -1
def yN (H:GH) (fn:Func) (args:List TV) (K:TV->GH->Option Z):Option Z:=
 if fn.origin != "" then none else
 if fn.name == "internal/abi.NoEscape" then
  match args with
  | [x]=>K x H
  |_=>none
 else if fn.name == "internal/bytealg.IndexByteString" then
  match args with
  | [.str s,.byte c]=>K (.int .i64 (oW c s)) H
  |_=>none
 else if fn.name == "internal/bytealg.CountString" then
  match args with
  | [.str s,.byte c]=>K (.int .i64 (J4 c s)) H
  |_=>none
 else none
def zW (P:Program) (sf:fD Z) (H:GH) (f:FuncId) (args:List TV) (K:TV->GH->Option Z):Option Z:=
 match P.funcs[f]? with
 |some fn=>match fn.body with
  |none=>yN H fn args K
  |some _=>sf.call f args H K
 |none=>none
def ti (H:GH) (f:Int->Int->Int) (args:List TV) (K:TV->GH->Option Z):Option Z:=none
def ov (cm:Cm Z) (H:GH) (x:TV) (K:TV->GH->Option Z):Option Z:=
 match x with
 | .raw (.slice none 0 0)=>K (.raw (.pointer none)) H
 | .all id=>match H.get id with
  |some (.arr _ _ xs _ _ em)=>match em with
   | .ex=>cm.Rr xs.isEmpty (K (.raw (.pointer none)) H) (K (.iO id 0 0) H)
   |_=>cm.eF (!xs.isEmpty) (K (.iO id 0 0) H)
  |_=>none
 |_=>none
def uI (cm:Cm Z) (P:Program) (H:GH) (argTypes:Array TypeId) (p n:TV) (K:TV->GH->Option Z):Option Z:=
 match p,n with
 | .raw (.pointer none),.int .i64 n=>cm.eF (n==0) (K (.str []) H)
 | .iO id 0 0,.int .i64 n=>match H.get id,argTypes[0]? with
  |some (.arr et e xs _ false em),some pt=>match Sh.same e .byte with
   |some ⟨h⟩=>bif Nat.beq (P.cellsOf et) 1 &&oN P pt et then
     cm.eF (ak 0 n &&ak n xs.length &&ak n roomy) (K (.str ((fg h xs:List UInt8).take n.toNat)) (H.put id (.arr et e xs false false em))) else none
   |none=>none
  |_,_=>none
 |_,_=>none
def uc (cm:Cm Z) (P:Program) (sh:bU) (H:GH) (argTypes:Array TypeId) (s x:TV) (K:TV->GH->Option Z):Option Z:=
 match s,x with
 | .all id,.all id2=>match H.get id,H.get id2 with
  |some (.nest et e no net ne xs em none),some (.nest _ e2 no2 net2 ne2 ys _ none)=>
   match Sh.same e e2,Sh.same ne ne2 with
   |some ⟨hh⟩,some _=>match argTypes[0]?,argTypes[1]? with
    |some t,some xt=>
     if isInt P xt then none else
     match cu P t with
     |some (e',i)=>match zeroOf P e' with
      |some z=>bif Nat.ble 1 i.size &&Nat.beq z.cells.size i.size &&Nat.beq e2.sz i.size &&Nat.beq no no2 &&Nat.beq net net2 &&Nat.beq et e' && !ys.isEmpty &&ys.all (fun y=>(aL e2 no2 ne2 y).isEmpty) && !Nat.beq id id2 then
        cm.eF (Nat.ble ((xs.length+ys.length)*(i.bytes+1)) roomy) (K (.all H.n) (((H.del id).del id2).new (.nest et e2 no net ne2 (fg hh xs++ys) em none)))
       else none
      |none=>none
     |none=>none
    |_,_=>none
   |_,_=>none
  |_,_=>oM cm P sh H argTypes s x K
 | .raw (.slice none 0 0),.all id2=>match H.get id2 with
  |some (.nest et e no net ne ys _ none)=>match argTypes[0]?,argTypes[1]? with
   |some t,some xt=>
    if isInt P xt then none else
    match cu P t with
    |some (e',i)=>match zeroOf P e' with
     |some z=>bif Nat.ble 1 i.size &&Nat.beq z.cells.size i.size &&Nat.beq e.sz i.size &&Nat.beq et e' && !ys.isEmpty &&ys.all (fun y=>(aL e no ne y).isEmpty) then
       cm.eF (Nat.ble (ys.length*(i.bytes+1)) roomy) (K (.all H.n) ((H.del id2).new (.nest et e no net ne ys .any none)))
      else none
     |none=>none
    |none=>none
   |_,_=>none
  |_=>oM cm P sh H argTypes s x K
 |_,_=>oM cm P sh H argTypes s x K
def py (cm:Cm Z) (P:Program) (sh:bU) (H:GH) (b:Builtin) (argTypes:Array TypeId) (args:List TV) (K:TV->GH->Option Z):Option Z:=
 match b,args with
 | .append,[s,x]=>uc cm P sh H argTypes s x K
 | .len,[x]=>match argTypes[0]? with
  |some t=>Gz P H t x K
  |none=>none
 | .max,args=>ti H (fun x y=>bif aD x y then y else x) args K
 | .min,args=>ti H (fun x y=>bif aD y x then y else x) args K
 | .unsafeSliceData,[x]=>ov cm H x K
 | .unsafeString,[p,n]=>bif argTypes[0]?.isSome then uI cm P H argTypes p n K else none
 |_,_=>none
def tE (cm:Cm Z) (P:Program) (sh:bU) (sf:fD Z) (ρ:Operand->TV) (H:GH) (c:Call) (K:TV->GH->Option Z):Option Z:=
 match c.callee with
 | .builtin b=>py cm P sh H b c.argTypes (c.args.toList.map ρ) K
 | .value f=>match ρ f with
  | .mo l=>DG sf l (c.args.toList.map ρ) H K
  | .fn f first captured=>zW P sf H f (first++c.args.toList.map ρ++captured) K
  |_=>none
 | .invoke _ _=>none
def F6:Operand->Operand->Bool
 | .tmp a,.tmp b=>Nat.beq a b
 |_,_=>false
def UY:Operand->Bool
 | .const _=>true
 |_=>false
def ND (P:Program) (op:BinOp) (t:TypeId) (x y:Operand) (a b:TV):Option Bool:=
 match P.underlying t,a,b with
 |some (.interface _),.raw .nilIface,.raw .nilIface=>bif UY x ||UY y then match op with
   | .eql=>some true
   | .neq=>some false
   |_=>none
  else none
 |some (.interface _),.raw (.iface _ _),.raw .nilIface=>match op with
   | .eql=>some false
   | .neq=>some true
   |_=>none
 |_,_,_=>none
def jH (cm:Cm Z) (P:Program) (sh:bU) (sf:fD Z) (ρ:Operand->TV) (H:GH) (o:Oper) (K:TV->GH->Option Z):Option Z:=
 match o.op with
 | .move x | .assign x=>K (ρ x) H
 | .pick c a b=>F4 H (ρ c) (ρ a) (ρ b) K
 | .alloc e=>vp P H e K
 | .box e x=>SD H e (ρ x) K
 | .build t parts=>EP P H t (parts.toList.map fun p=>(p.1,ρ p.2)) K
 | .buildSlice t len parts=>kO P sh H t len (parts.toList.map fun p=>(p.1,ρ p.2)) K
 | .load t a=>lC cm P sh H t (ρ a) K
 | .store t a x=>AI cm P H t (ρ a) (ρ x) K
 | .nilCheck x=>R4 H (ρ x) K
 | .binOp op t x y _=>match ND P op t x y (ρ x) (ρ y) with
  |some b=>K (.bool b) H
  |none=>Pk cm P H op t (ρ x) (ρ y) K
 | .unOp op _ x=>TY H op (ρ x) K
 | .convert src dst x=>oT P H src dst (ρ x) K
 | .makeFunc (.func f) first captured=>K (.fn f (first.toList.map ρ) (captured.toList.map ρ)) H
 | .makeSlice t l c=>rP cm P sh H t (F6 l c) (ρ l) (ρ c) K
 | .slice t x lo hi mx=>ED cm P H t (ρ x) (lo.map ρ) (hi.map ρ) (mx.map ρ) K
 | .fieldAddr s x f=>iD P H s (ρ x) f K
 | .field t x f=>yO P H t (ρ x) f K
 | .indexAddr t x ix=>fa cm P sh H t (ρ x) (Ua (ρ ix)) K
 | .index t x ix=>Ak cm P H t (ρ x) (Ua (ρ ix)) K
 | .range t x=>Ea P H t (ρ x) K
 | .makeMap t n=>qC P sh H t (n.map ρ) K
 | .lookup t x k ok=>Di P sh H t (ρ x) (ρ k) ok K
 | .mapUpdate t m k x=>vh cm P H t (ρ m) (ρ k) (ρ x) K
 | .insert t m k x=>vh cm P H t (ρ m) (ρ k) (ρ x) K
 | .next it true=>LD cm H (ρ it) K
 | .extract tp i=>pN H (ρ tp) i K
 | .makeInterface t x=>nB P H t (ρ x) K
 | .typeAssert x _ asserted ok=>ld P H (ρ x) asserted ok K
 | .panic x=>FB H (ρ x) K
 | .call c=>tE cm P sh sf ρ H c K
 |_=>none
def nu (fi:FI) (k:Nat) (x:Option Z):Option Z:=bif AF fi.st k then none else x
def RL:List Nat->Nat->Nat->Nat
 | [],_,id=>5*id+5
 |c::r,n,id=>bif Nat.ble 1048576 c &&(Nat.beq (Nat.mod c 1048576) id &&Nat.ble (Nat.div c 1048576) n) then c else RL r n id
def PV (o:Oper) (j:Nat):Nat:=match o.dst with
 |some d=>5*d+5+j
 |none=>0
def QU:Operand->Nat->Nat
 | .tmp d,j=>5*d+5+j
 |_,_=>0
def lZ (cm:Cm Z) (fi:FI) (ops:Array Oper) (o:Oper) (E:GE) (run skip:GE->Option Z):Option Z:=
 match o.guard with
 |none=>run E
 |some (j,want)=>match (ops[j]?).bind (·.dst) with
  |some d=>match fe fi E d with
   | .bool b=>cm.Rr b (bif want then nu fi (PV o 1) (run (cO fi d (.bool true) E)) else nu fi (PV o 2) (skip (cO fi d (.bool true) E))) (bif want then nu fi (PV o 2) (skip (cO fi d (.bool false) E)) else nu fi (PV o 1) (run (cO fi d (.bool false) E)))
   | .raw v=>match v with
    | .bool _ | .chan _=>none
    |_=>skip E
   |_=>none
  |none=>none
def qk (cm:Cm Z) (P:Program) (sh:bU) (sf:fD Z) (fi:FI) (ops:Array Oper):List Oper->GE->GH->(GE->GH->Option Z)->(GE->Value->GH->Option Z)->Option Z
 | [],E,H,K,_=>K E H
 |o::rest,E,H,K,KP=>
  lZ cm fi ops o E (fun E=>jH cm P sh sf (dD fi E) H o fun v H=>LM v (fun w=>KP E w H) (qk cm P sh sf fi ops rest (c8 fi E o.dst v) H K KP))
   (fun E=>qk cm P sh sf fi ops rest (c8 fi E o.dst (.raw Go.undef)) H K KP)
def zE:List TV->Option (List UInt8)
 | []=>some []
 | .byte c::r=>match zE r with
  |some l=>some (c::l)
  |none=>none
 |_=>none
def NQ (P:Program) (fi:FI) (E:GE) (o o2:Oper):Option (Tmp×Tmp×List UInt8):=
 match o.op,o2.op,o.dst,o2.dst,o.guard,o2.guard with
 | .buildSlice t len parts,.convert src dst (.tmp d'),some d,some d2,none,none=>
  bif Nat.beq d d' &&Nat.beq src dst &&Nat.beq src t &&Nat.blt d fi.nt then
   match P.underlying src,cu P t with
   |some (.slice e0),some (e,i)=>match P.underlying e0,zeroOf P e with
    |some (.int .u8),some z=>
     bif Nat.ble (len*(i.size+1)) (2^24) &&(parts.toList.map fun p=>(p.1,dD fi E p.2)).all (fun p=>p.2.ok) &&Nat.beq z.cells.size i.size &&z.cells.toList.all fQ &&Nat.beq i.size 1 then
      match oO (fun j=>some (j*i.size,i.size)) (M6 (z.cells.toList.map jW) len) (parts.toList.map fun p=>(p.1,dD fi E p.2)) with
      |some cells=>match zE cells with
       |some bs=>bif Nat.beq bs.length len then some (d,d2,bs) else none
       |none=>none
      |none=>none
     else none
    |_,_=>none
   |_,_=>none
  else none
 |_,_,_,_,_,_=>none
def ui (cm:Cm Z) (P:Program) (sh:bU) (sf:fD Z) (fi:FI) (ops:Array Oper):List Oper->GE->GH->(GE->GH->Option Z)->(GE->Value->GH->Option Z)->Option Z
 | [],E,H,K,_=>K E H
 | [o],E,H,K,KP=>
  lZ cm fi ops o E (fun E=>jH cm P sh sf (dD fi E) H o fun v H=>LM v (fun w=>KP E w H) (K (c8 fi E o.dst v) H))
   (fun E=>K (c8 fi E o.dst (.raw Go.undef)) H)
 |o::o2::rest,E,H,K,KP=>match NQ P fi E o o2 with
  |some (d,d2,bs)=>ui cm P sh sf fi ops rest (c8 fi (c8 fi E (some d) (.aB .byte bs (some false) false)) (some d2) (.aB .byte bs (some false) false)) H K KP
  |none=>lZ cm fi ops o E (fun E=>jH cm P sh sf (dD fi E) H o fun v H=>LM v (fun w=>KP E w H) (ui cm P sh sf fi ops (o2::rest) (c8 fi E o.dst v) H K KP))
   (fun E=>ui cm P sh sf fi ops (o2::rest) (c8 fi E o.dst (.raw Go.undef)) H K KP)
def ie:TV->Bool
 | .int _ _ | .byte _ | .str _ | .bool _=>true
 |_=>false
def Ev:TV->Bool
 | .agg _=>true
 |t=>ie t
def kG (ρ:Operand->TV) (o:Oper):Option (List Nat×Bool):=
 match o.op with
 | .load _ a=>match ρ a with
  | .ptr id _=>some ([id],false)
  | .iO id _ _=>some ([id],false)
  | .nL _=>some ([],true)
  |_=>none
 | .binOp _ _ x y _=>bif Ev (ρ x) &&Ev (ρ y) then some ([],false) else none
 | .lookup _ x _ _=>match ρ x with
  | .mp id=>some ([id],false)
  | .raw (.map none)=>some ([],false)
  |_=>none
 | .call c=>match c.callee with
  | .builtin .len=>match c.args.toList with
   | [x]=>match ρ x with
    | .str _ | .aB _ _ _ _ | .all _ | .own _ _ _=>some ([],false)
    | .raw (.slice none 0 0)=>some ([],false)
    | .mp id=>some ([id],false)
    |_=>none
   |_=>none
  | .builtin .max=>some ([],false)
  | .builtin .min=>some ([],false)
  | .builtin .unsafeSliceData=>some ([],false)
  |_=>none
 | .convert _ _ x=>match ρ x with
  | .all id=>some ([id],false)
  | .own id _ _=>some ([id],false)
  | .int _ _ | .byte _ | .str _=>some ([],false)
  | .aB _ _ _ _=>some ([],true)
  |_=>none
 |_=>none
def l9:TV->Bool
 | .int _ _ | .byte _ | .bool _ | .str _ | .ptr _ _ | .iO _ _ _ | .nL _ | .aB _ _ _ _ | .all _ | .own _ _ _ | .mp _=>true
 | .raw v=>match v with
  | .bool _ | .int _ _ | .string _ | .pointer _ | .slice _ _ _ | .map _ | .nilFunc | .nilIface=>true
  |_=>false
 |_=>false
def F7:TV->Bool
 | .agg cs=>cs.all l9
 | .ja cs=>cs.all l9
 | .fn _ a c=>a.all l9 &&c.all l9
 |t=>l9 t
def Jv (aP:List Nat):Operand->Bool
 | .tmp t=> !AF aP t
 |_=>false
def tn (ρ:Operand->TV) (aP:List Nat) (o:Oper):Bool:=
 match o.op with
 | .move x | .assign x=>Jv aP x
 | .indexAddr _ x ix=>Jv aP x &&(match ρ x,ρ ix with
  | .aB _ _ _ _,.int _ _=>true
  |_,_=>false)
 | .fieldAddr _ x _=>Jv aP x &&(match ρ x with
  | .nL _=>true
  |_=>false)
 |_=>false
def tw (ρ:Operand->TV) (aP:List Nat) (o:Oper):Bool:=
 match o.op with
 | .load _ a=>Jv aP a &&(match ρ a with
  | .nL _=>true
  |_=>false)
 |_=>false
def ku (b:Bool) (d:Option Tmp) (aP:List Nat):List Nat:=
 bif b then aP else match d with
  |some d=>d::aP
  |none=>aP
structure SU where
 i:Nat
 ids:List Nat
 st:List (Option Nat)
structure Ov where
 E:GE
 H:GH
 cw:List (Nat×Option GH)
 reads:List SU
 aP:List Nat
 pn:List Nat
 po:List (Nat×Nat)
def vW:List (Option Nat)->List (Option Nat)->Bool
 | [],[]=>true
 |some a::r,some b::r'=>Nat.beq a b &&vW r r'
 |_,_=>false
def pe (H:GH) (ids:List Nat) (p:Bool) (m:Nat):List (Nat×Option GH)->Bool
 | []=>true
 |(c,q)::rest=>(m.testBit c ||(match q with
  |some Hc=> !p &&vW (ids.map Hc.aH) (ids.map H.aH)
  |none=>false)) &&pe H ids p m rest
def lS (H:GH) (m:Nat):List SU->Bool
 | []=>true
 |r::rest=>(m.testBit r.i ||vW r.st (r.ids.map H.aH)) &&lS H m rest
def pB (m:Nat):List (Nat×Option GH)->Bool
 | []=>true
 |(c,_)::rest=>m.testBit c &&pB m rest
def Lo:Option bu->Bool
 |some (.map ..)=>true
 |_=>false
def jj (po:List (Nat×Nat)):List Nat->List Nat
 | []=> []
 |j::r=>match po.find? (fun p=>Nat.beq p.1 j) with
  |some p=>p.2::jj po r
  |none=>jj po r
def Fm (H:GH) (po:List (Nat×Nat)) (js:List Nat):Bool:=js.all fun j=>match po.find? (fun p=>Nat.beq p.1 j) with
 |some p=>Lo (H.get p.2)
 |none=>false
def KJ (ρ:Operand->TV) (H:GH) (po:List (Nat×Nat)) (js:List Nat) (o:Oper):Bool:=
 match o.op with
 | .store _ a _=>match ρ a with
  | .ptr id _=>match H.get id with
   |some (.cells _ _ true)=>Fm H po js
   |_=>false
  |_=>false
 |_=>false
def rH:List Nat->GH->GH
 | [],H=>H
 |k::r,H=>rH r (H.del k)
def rA (cm:Cm Z) (P:Program) (sh:bU) (sf:fD Z) (fi:FI) (ops:Array Oper) (i:Nat) (o:Oper) (m:Nat) (s:Ov) (K:Ov->Option Z) (KP:Value->GH->Option Z):Option Z:=
 lZ cm fi ops o s.E (fun E=>
  match kindOf P o with
  | .pure=>bif tn (dD fi E) s.aP o then jH cm P sh sf (dD fi E) s.H o fun v H=>K { s with E:=c8 fi E o.dst v,H:=H }
    else jH cm P sh sf (dD fi E) s.H o fun v H=>K { s with E:=c8 fi E o.dst v,H:=H,aP:=ku (ie v) o.dst s.aP }
  | .read=>bif tw (dD fi E) s.aP o then
     jH cm P sh sf (dD fi E) s.H o fun v H=>bif F7 v then K { s with E:=c8 fi E o.dst v,H:=H,reads:=⟨i,[],[]⟩::s.reads } else none
    else match kG (dD fi E) o with
   |some (ids,p)=>bif (s.pn.isEmpty ||(ids.isEmpty && !p)) &&pe s.H ids p m s.cw then
     jH cm P sh sf (dD fi E) s.H o fun v H=>bif F7 v then K { s with E:=c8 fi E o.dst v,H:=H,reads:=⟨i,ids,ids.map s.H.aH⟩::s.reads,aP:=ku (ie v) o.dst s.aP } else none
    else none
   |none=>none
  | .fresh=>match o.op with
   | .buildSlice t l ps=>eg P sh s.H t l (ps.toList.map fun p=>(p.1,dD fi E p.2)) fun v H=>K { s with E:=c8 fi E o.dst v,H:=H,aP:=ku (ie v) o.dst s.aP,pn:=i::s.pn }
   | .alloc _=>jH cm P sh sf (dD fi E) s.H o fun v H=>K { s with E:=c8 fi E o.dst v,H:=H,aP:=ku (ie v) o.dst s.aP,pn:=i::s.pn }
   | .makeMap _ _=>jH cm P sh sf (dD fi E) s.H o fun v H=>K { s with E:=c8 fi E o.dst v,H:=H,aP:=ku (ie v) o.dst s.aP,pn:=i::s.pn,po:=(i,s.H.n)::s.po }
   |_=>none
  | .chain=>bif pB m s.cw then
    bif s.pn.all (fun j=>m.testBit j) then
    jH cm P sh sf (dD fi E) s.H o fun v H=>LM v (fun w=>KP w H) (
     bif lS H m s.reads then K { E:=c8 fi E o.dst v,H:=H,cw:=(i,bif s.pn.isEmpty then some s.H else none)::s.cw,reads:=s.reads,aP:=ku (ie v) o.dst s.aP,pn:= [],po:=s.po } else none)
    else bif KJ (dD fi E) s.H s.po (s.pn.filter fun j=> !m.testBit j) o then
    jH cm P sh sf (dD fi E) s.H o fun v H=>
     bif Fm H s.po (s.pn.filter fun j=> !m.testBit j) &&lS (rH (jj s.po (s.pn.filter fun j=> !m.testBit j)) H) m s.reads then K { E:=c8 fi E o.dst v,H:=H,cw:=(i,none)::s.cw,reads:=s.reads,aP:=ku (ie v) o.dst s.aP,pn:=s.pn.filter fun j=> !m.testBit j,po:=s.po } else none
    else none
   else none)
  (fun E=>K { s with E:=c8 fi E o.dst (.raw Go.undef) })
def mA (c:Nat):List Oper->List Nat->Bool
 | [],_=>true
 |_::_,[]=>false
 |_::r,m::ms=>m.testBit c &&mA c r ms
def lA (fi:FI):List Oper->GE->GE
 | [],E=>E
 |o::rest,E=>lA fi rest (c8 fi E o.dst .undef)
def pw (cm:Cm Z) (P:Program) (sh:bU) (sf:fD Z) (fi:FI) (ops:Array Oper):List Oper->Nat->List Nat->Ov->(Ov->Option Z)->(Value->GH->Option Z)->Option Z
 | [],_,_,s,K,_=>K s
 |_::_,_,[],_,_,_=>none
 |o::rest,i,m::ms,s,K,KP=>rA cm P sh sf fi ops i o m s (fun s=>pw cm P sh sf fi ops rest (i+1) ms s K KP) (fun w H=>bif mA i rest ms then KP w H else none)
def LC (cm:Cm Z) (P:Program) (sh:bU) (sf:fD Z) (fi:FI) (ops:Array Oper) (E:GE) (H:GH) (K:GE->GH->Option Z) (KP:GE->Value->GH->Option Z):Option Z:=
 bif pW ops (di ops.toList []) then
  pw cm P sh sf fi ops ops.toList 0 (di ops.toList []) ⟨E,H,[],[],[],[],[]⟩ (fun s=>K s.E s.H) (fun w H=>KP (lA fi ops.toList E) w H)
 else none
def dA:Code->Nat
 | .region id _ _=>id
 | .seq a _=>dA a
 | .block _ c=>dA c
 | .scope c=>dA c
 | .loop c=>dA c
 |_=>0
def quiet (P:Program) (sh:bU) (o:Oper):Bool:=
 match o.op with
 | .move _ | .assign _ | .pick .. | .binOp .. | .unOp .. | .index .. | .field .. | .fieldAddr .. | .indexAddr .. | .extract .. =>true
 | .load t _=>sh.tF.isEmpty ||(!KM P t && !BL sh t)
 | .convert src _ _=>match P.underlying src with
  |some (.int _)=>true
  |_=>false
 | .call c=>match c.callee with
  | .builtin .len=>true
  |_=>false
 |_=>false
def CS (fi:FI):List Oper->List Tmp
 | []=> []
 |o::r=>match o.dst with
  |some d=>match cls fi d with
   | .loc=>d::CS fi r
   |_=>CS fi r
  |none=>CS fi r
def Kg (P:Program) (sh:bU) (fi:FI) (ops:Array Oper):Option Tmp:=
 bif ops.toList.any (fun o=>o.guard.isSome) &&ops.toList.all (quiet P sh) then match CS fi ops.toList with
  | [d]=>some d
  | []=>match ops.toList.getLast?.bind (·.dst) with
   |some d=>match cls fi d with
    | .tmp=>some d
    |_=>none
   |none=>none
  |_=>none
 else none
def vS:TV->Option Bool
 | .bool b=>some b
 |_=>none
def Bf (fi:FI) (c:Operand) (b:Bool) (E:GE):GE:=match c with
 | .tmp t=>cO fi t (.bool b) E
 |_=>E
def yI:fD Z:=⟨fun _ _ _ _ _ _ _=>none,fun _ _ _ _=>none,fun _ _ _ d _ _ _=>d⟩
def gC (cx:Cx Z) (P:Program) (sh:bU) (sf:fD Z) (bx:Nat) (fi:FI) (ro:Option Nat):Code->GE->GH->(X->GE->GH->Option Z)->Option Z
 | .skip,E,H,K=>K .normal E H
 | .region id ops false,E,H,K=>nu fi (RL fi.st H.n id) <|match Kg P sh fi ops with
  |some d=>cx.jn (fun cm=>qk cm P sh yI fi ops ops.toList E.reset H (fun E _=>vS (fe fi E d)) fun _ _ _=>none) fun b=>K .normal (cO fi d (.bool b) E.reset) H
  |none=>ui cx.cm P sh sf fi ops ops.toList E.reset H (fun E H=>K .normal E H) fun E w H=>K (.panic w) E H
 | .region id ops true,E,H,K=>nu fi (RL fi.st H.n id) <|LC cx.cm P sh sf fi ops E.reset H (fun E H=>K .normal E H) fun E w H=>K (.panic w) E H
 | .seq a b,E,H,K=>gC cx P sh sf bx fi ro a E H fun x E H=>match x with
  | .normal=>gC cx P sh sf bx fi ro b E H K
  |x=>K x E H
 | .cond c a b,E,H,K=>match dD fi E c with
  | .bool t=>cx.cm.Rr t (nu fi (QU c 3) (gC cx P sh sf bx fi ro a (Bf fi c true E) H K)) (nu fi (QU c 4) (gC cx P sh sf bx fi ro b (Bf fi c false E) H K))
  |_=>none
 | .block id c,E,H,K=>gC cx P sh sf bx fi ro c E H fun x E H=>match x with
  | .exit j=>bif Nat.beq j id then K .normal E H else K (.exit j) E H
  |x=>K x E H
 | .loop c,E,H,K=>sf.loop bx (dA c) ro (gC cx P sh sf bx fi ro c E H fun x E H=>match x with
   | .normal=>sf.code bx fi ro (.loop c) E H K
   |x=>K x E H) E H K
 | .rangeFunc f ps eo body,E,H,K=>
  bif (match ro with
   |none=>true
   |some l=>match H.get l with
    |some (.loop ..)=>true
    |_=>false) then
   match dD fi E f with
   | .fn g first captured=>
    sf.call g (first++ [TV.mo H.n]++captured) (H.new (.loop bx .ready none fi E ps.toList eo body)) fun t H1=>LM t (fun w=>K (.panic w) E H1) (
     match H1.get H.n with
     |some (.loop bx st pd fi2 E2 ps eo body)=>
      bif st==LoopState.busy then none else
      match pd with
      |none=>K .normal E (H1.put H.n (.loop bx .exhausted pd fi2 E2 ps eo body))
      |some .ret=>K .ret E (H1.put H.n (.loop bx .exhausted pd fi2 E2 ps eo body))
      |some (.exit id)=>K (.exit id) E (H1.put H.n (.loop bx .exhausted pd fi2 E2 ps eo body))
      |_=>none
     |_=>none)
   |_=>none
  else none
 | .exit id,E,H,K=>K (.exit id) E H
 | .scope c,E,H,K=>gC cx P sh sf bx fi ro c E H K
 | .label _,E,H,K=>K .normal E H
 | .goto _,_,_,_=>none
 | .ret,E,H,K=>K .ret E H
 | .refuse _,_,_,_=>none
def Qa (P:Program) (fi:FI) (E:GE) (H:GH):ResultVar->Option TV
 | .tmp t=>some (fe fi E t)
 | .cell a t=>match fe fi E a with
  | .ptr id off=>match H.get id with
   |some (.cells _ cs _)=>bif Nat.ble off cs.length then eO P t (cs.drop off) else none
   |_=>none
  |_=>none
def xU (P:Program) (fi:FI) (E:GE) (H:GH):List ResultVar->Option (List TV)
 | []=>some []
 |r::rs=>match Qa P fi E H r,xU P fi E H rs with
  |some v,some vs=>some (v::vs)
  |_,_=>none
def C3:Nat->List TV->DN
 |_,[]=> .e
 |i,v::r=> .c i v (C3 (i+1) r)
def Qt (ops:Array Oper):Option (Oper×Operand×Array Operand):=match ops.toList.getLast? with
 |some o=>match o.op,o.guard with
  | .defer c,none=>match c.callee with
   | .value f=>some (o,f,c.args)
   |_=>none
  |_,_=>none
 |none=>none
def zp:Code->Option (List Code×Array Oper×Oper×Operand×Array Operand×Code)
 | .seq (.region id ops dr) rest=>match (bif dr then none else Qt ops) with
  |some (o,f,xs)=>some ([],ops,o,f,xs,rest)
  |none=>match zp rest with
   |some (pre,q)=>some (.region id ops dr::pre,q)
   |none=>none
 |_=>none
def Qz (P:Program) (fi:FI) (fn:Func) (E:GE) (H:GH) (K:TV->GH->Option Z):Option Z:=match xU P fi E H fn.results.toList with
 |some [v]=>K v H
 |some vs=>K (.ja vs) H
 |none=>none
def D8 (cx:Cx Z) (P:Program) (sh:bU) (hint:Hint) (sf:fD Z) (f:FuncId) (fn:Func) (pre:List Code) (ops:Array Oper) (o:Oper) (x:Operand) (xs:Array Operand) (rest:Code) (args:List TV) (H:GH) (K:TV->GH->Option Z):Option Z:=none
def nc (cx:Cx Z) (P:Program) (sh:bU) (hint:Hint) (sf:fD Z) (f:FuncId) (args:List TV) (H:GH) (K:TV->GH->Option Z):Option Z:=
 match P.funcs[f]? with
 |some fn=>match fn.body with
  |some c=>bif Nat.ble args.length fn.ntmps then
    match zp c with
    |some (pre,ops,o,x,xs,rest)=>D8 cx P sh hint sf f fn pre ops o x xs rest args H K
    |none=>gC cx P sh sf f (pE hint f fn) none c ⟨C3 0 args,.e⟩ H fun x E H=>match x with
     | .normal | .ret=>Qz P (pE hint f fn) fn E H K
     | .panic w=>K (.J6 w) H
     |_=>none
   else none
  |none=>none
 |none=>none
structure rW (Z:Type) where
 call:FuncId->Option (Nat->List TV->GH->(TV->GH->Option Z)->Option Z)
 loop:Nat->Nat->Option Nat->Option (Nat->GE->GH->(X->GE->GH->Option Z)->Option (Option Z))
def jc:Nat:=1048576
def nj:List Nat->FuncId->Option (Nat×Nat)
 |k::f'::g::r,f=>bif Nat.beq f f' then some (k,g) else nj r f
 |_,_=>none
def lD:List Int:= [1,10,100,1000,10000,100000,1000000,10000000,100000000,1000000000,10000000000,100000000000,1000000000000,10000000000000,100000000000000,1000000000000000,10000000000000000,100000000000000000,1000000000000000000,10000000000000000000]
def FG (n:Int):Bool:=ak (-9223372036854775808) n &&ak n 9223372036854775807
def Ai (I:IH) (g:Nat) (vs:List Value):Prop:=∃ cs et fz ex sd,I.get g=some (.cells cs et fz ex sd)/\ex=true/\cs.length=vs.length/\∀ (i:Nat) (v:Value),vs[i]? =some v->cs[i]? =some v
def oq (cs:List UInt8):Bool:=Nat.ble 2 cs.length &&Nat.ble cs.length 4294967280 &&cs.all fun c=>Nat.blt c.toNat 128
def rz:List UInt8:=Go.Pinned.utf8FirstZ.map UInt8.ofNat
def Ju:List (UInt8×UInt8):= [(128,191),(160,191),(128,159),(144,191),(128,143),(0,0),(0,0),(0,0),(0,0),(0,0),(0,0),(0,0),(0,0),(0,0),(0,0),(0,0)]
def rX (c:UInt8):Value:= .int .u8 c.toNat
open Classical in
def jF (k g:Nat) (args:List Value) (I:IH):Option Value:=
 match k,args with
 |0,[]=>some (.bool true)
 |1,[.int .i64 n]=>if FG n=true/\g<bI/\Ai I g (lD.map fun z=> .int .u64 z) then some (.string (ba (Lib.itoa n))) else none
 |2,[.string s,.string cs]=>bif oq (bl cs) then some (.string (ba (Lib.trimLeftS (bl s) (bl cs)))) else none
 |3,[.string s]=>if Nat.ble (bl s).length 9223372036854775807=true/\(g / 1000<bI/\g%1000<bI)/\Ai I (g / 1000) (rz.map rX)/\Ai I (g%1000) (Ju.flatMap fun p=> [rX p.1,rX p.2]) then some (.bool (Lib.validD (bl s))) else none
 |_,_=>none
def G9 (k g:Nat) (args:List Value) (I:IH):Option (Iv.End×IH):=(jF k g args I).map fun v=>(.returned v,I)
def cj (hint:Hint):Iv.Spec:=fun f args I=>match nj (hint jc) f with
 |some (k,g)=>G9 k g args I
 |none=>none
def SL (sh:bU) (g:Nat):Bool:=
 match sh.tb g with
 |some ⟨.int .u64,xs⟩=>(xs:List Int)==lD
 |_=>false
def TQ (sh:bU) (g1 g2:Nat):Bool:=
 (match sh.tb g1 with
 |some ⟨.byte,xs⟩=>(xs:List UInt8)==rz
 |_=>false) &&(match sh.tb g2 with
 |some ⟨.cons .byte .byte,ys⟩=>(ys:List (UInt8×UInt8))==Ju
 |_=>false)
def yy (cm:Cm Z) (sh:bU) (k g:Nat) (args:List TV) (H:GH) (K:TV->GH->Option Z):Option (Option Z):=
 match k,args with
 |0,[]=>some (K (.bool true) H)
 |1,[.int .i64 n]=>some (bif Nat.blt g bI &&SL sh g then cm.eF (FG n) (K (.str (Lib.itoa n)) H) else none)
 |2,[.str s,.str cs]=>bif oq cs then some (K (.str (Lib.trimLeftS s cs)) H) else none
 |3,[.str s]=>some (bif Nat.blt (g / 1000) bI &&(Nat.blt (g%1000) bI &&TQ sh (g / 1000) (g%1000)) then cm.eF (Nat.ble s.length 9223372036854775807) (K (.bool (Lib.validD s)) H) else none)
 |_,_=>some none
def MN:Nat:=1048577
def BO:Nat:=1048578
def Nh:List Nat->Nat->Nat->Bool
 |a::b::r,x,y=>bif Nat.beq a x &&Nat.beq b y then true else Nh r x y
 |_,_,_=>false
def gv (cx:Cx Z) (P:Program) (sh:bU) (hint:Hint) (hk:rW Z):Nat->fD Z
 |0=>⟨fun _ _ _ _ _ _ _=>none,fun _ _ _ _=>none,fun bx r ro d E H K=>bif Nh (hint BO) bx r then none else match hk.loop bx r ro with
   |some f=>match f 0 E H K with
    |some r=>r
    |none=>d
   |none=>d⟩
 |n+1=>⟨gC cx P sh (gv cx P sh hint hk n),fun f args H K=>match nj (hint jc) f with
   |some (k,g)=>match yy cx.cm sh k g args H K with
    |some r=>r
    |none=>match hk.call f with
     |some h=>h n args H K
     |none=>nc cx P sh hint (gv cx P sh hint hk n) f args H K
   |none=>bif AF (hint MN) f then none else match hk.call f with
   |some h=>h n args H K
   |none=>nc cx P sh hint (gv cx P sh hint hk n) f args H K,
  fun bx r ro d E H K=>bif Nh (hint BO) bx r then none else match hk.loop bx r ro with
   |some f=>match f (n+1) E H K with
    |some r=>r
    |none=>d
   |none=>d⟩
end
end Go.Gv
