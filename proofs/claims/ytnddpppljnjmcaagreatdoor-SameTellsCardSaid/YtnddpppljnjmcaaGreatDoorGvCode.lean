/- The pure evaluator (the second part): calls, regions, code. -/
import Derived.Test.YtnddpppljnjmcaaGreatDoorGvBase
import Derived.Lib.ItoaNum
import Derived.Lib.SlTrimSet
import Derived.Lib.ValidU
import GoSem.PinnedTables
set_option linter.unusedSimpArgs false
set_option linter.unusedVariables false
namespace Go.Gv
open Go Go.Iv
noncomputable section
variable {β:Type}
structure eP (β:Type) where
 code:Nat→FI→Option Nat→Code→GE→GH→(X→GE→GH→Option β)→Option β
 call:FuncId→List TV→GH→(TV→GH→Option β)→Option β
 loop:Nat→Nat→Option Nat→Option β→GE→GH→(X→GE→GH→Option β)→Option β
def AQ (H:GH) (_:Nat):GH:=H
def vT (H:GH) (id:Nat):GH:=match H.get id with
 |some (.cz kt gk k net ne xs (some (x,n)))=>match H.get n with
  |some (.arr net' ne' ys true false .ex)=>bif Nat.beq net' net then (match Sh.same ne' ne with
    |some ⟨h⟩=>(H.del n).put id (.cz kt gk k net ne (jP k xs x (eQ h ys)) none)
    |none=>H) else H
  |_=>H
 |_=>H
def Bm (H:GH):TV→Option Nat
 | .mp id=>match H.get id with
  |some (.cz ..)=>some id
  |_=>none
 |_=>none
def RQ (P:Program) (e:TypeId):Bool:=match zeroOf P e with
 |some (.slice none 0 0)=>true
 |_=>false
def Ns (P:Program) (H:GH) (t:TypeId) (id:Nat) (k:TV) (K:TV→GH→Option β):Option β:=
 match gK P t,H.get id with
 |some (kt,e),some (.cz kt' gk ks net ne xs none)=>bif Nat.beq kt kt' &&RQ P e then
   match Ht gk ks k with
   |some kx=>K (.all H.n) ((H.put id (.cz kt' gk ks net ne xs (some (kx,H.n)))).new (.arr net ne (c8 ks xs kx []) true false .ex))
   |none=>none
  else none
 |_,_=>none
def Tv (ks:Sh) (kx:ks.ty):Option (ks.ty×Nat)→Bool
 |none=>true
 |some p=>ks.ie p.1 kx
def GX (cm:Cm β) (P:Program) (H:GH) (t:TypeId) (id:Nat) (k v:TV) (K:TV→GH→Option β):Option β:=
 match v with
 | .all m=>match gK P t,H.get id,H.get m with
  |some (kt,_),some (.cz kt' gk ks net ne xs ho),some (.arr net' ne' ys true false em)=>bif Nat.beq kt kt' &&Nat.beq net' net then
    match Ht gk ks k,Sh.same ne' ne with
    |some kx,some ⟨h⟩=>cm.eA ((match em with
      | .ex=>true
      |_=> !ys.isEmpty) &&Tv ks kx ho) (K .undef ((H.del m).put id (.cz kt' gk ks net ne (cE ks xs kx (eQ h ys)) none)))
    |_,_=>none
   else none
  |_,_,_=>none
 |_=>none
def B1 (P:Program) (sh:cr) (H:GH) (t:TypeId) (r:Option TV) (K:TV→GH→Option β):Option β:=
 match gK P t with
 |some (kt,e)=>match P.underlying e with
  |some (.slice net)=>match sh.ty kt,sh.ty net,gf P kt with
   |some ks,some ne,some gk=>bif (match r with
     |none=>true
     |some (.int _ _)=>true
     |_=>false) &&gU P kt gk ks &&Nat.blt 0 ne.sz then K (.mp H.n) (H.new (.cz kt gk ks net ne [] none)) else none
   |_,_,_=>none
  |_=>none
 |none=>none
def O9 (t:Nat):List Nat→Bool
 | []=>false
 |a::r=>Nat.beq a t ||O9 t r
def iI (P:Program) (sh:cr) (H:GH) (t:TypeId) (r:Option TV) (K:TV→GH→Option β):Option β:=
 bif O9 t sh.S4 then B1 P sh H t r K else j9 P sh H t r K
def vc (P:Program) (sh:cr) (H:GH) (t:TypeId) (x k:TV) (ok:Bool) (K:TV→GH→Option β):Option β:=
 match Bm H x with
 |some id=>bif ok then none else Ns P (vT H id) t id k K
 |none=>Bj P sh H t x k ok K
def oN (cm:Cm β) (P:Program) (H:GH) (t:TypeId) (m k v:TV) (K:TV→GH→Option β):Option β:=
 match Bm H m with
 |some id=>GX cm P H t id k v K
 |none=>Aw cm P H t m k v K
def Sf (P:Program) (t:TypeId):Bool:=match P.underlying t with
 |some (.slice _)=>true
 |_=>false
def tC (cm:Cm β) (P:Program) (_:cr) (H:GH) (t:TypeId) (a:TV) (K:TV→GH→Option β):Option β:=rE cm P H t a K
def QG:TV→Bool
 | .int _ _ | .byte _ | .bool _ | .str _=>true
 |_=>false
def HY (cm:Cm β) (P:Program) (H:GH) (t:TypeId) (a v:TV) (K:TV→GH→Option β):Option β:=HH cm P H t a v K
def gW (cm:Cm β) (P:Program) (sh:cr) (H:GH) (t:TypeId) (x ix:TV) (K:TV→GH→Option β):Option β:=eV cm P sh H t x ix K
def Me (P:Program) (H:GH) (t:TypeId) (x:TV) (K:TV→GH→Option β):Option β:=OW P H t x K
def kG (cm:Cm β) (P:Program) (sh:cr) (H:GH) (t:TypeId) (eq:Bool) (l c:TV) (K:TV→GH→Option β):Option β:=gy cm P sh H t eq l c K
def jl (P:Program) (sh:cr) (H:GH) (t:TypeId) (len:Nat) (ps:List (Nat×TV)) (K:TV→GH→Option β):Option β:=fh P sh H t len ps K
def tT (fi:FI):List Tmp→List TV→GE→GE
 |t::ts,a::as,E=>tT fi ts as (cA fi t a E)
 |_,_,E=>E
def HK (sf:eP β) (l:Nat) (args:List TV) (H:GH) (K:TV→GH→Option β):Option β:=
 match H.get l with
 |some (.loop bB .ready _ fi E ps dK body)=>
  bif Nat.beq args.length ps.length then
   sf.code bB fi (some l) dK (tT fi ps args E) H fun x E1 H1=>match x with
    | .normal=>match H1.get l with
     |some (.loop fid1 .ready pd1 fi1 F1 ps1 asg1 body1)=>
      sf.code bB fi (some l) body E1 (H1.put l (.loop fid1 .busy pd1 fi1 F1 ps1 asg1 body1)) fun x _ H2=>
       match H2.get l with
       |some (.loop fid2 _ _ fi2 F2 ps2 asg2 body2)=>match x with
        | .normal=>K (.bool true) (H2.put l (.loop fid2 .ready none fi2 F2 ps2 asg2 body2))
        | .ret=>K (.bool false) (H2.put l (.loop fid2 .done (some .ret) fi2 F2 ps2 asg2 body2))
        | .exit id=>K (.bool false) (H2.put l (.loop fid2 .done (some (.exit id)) fi2 F2 ps2 asg2 body2))
        | .panic _=>none
       |_=>none
     |_=>none
    |_=>none
  else none
 |_=>none
def AW (H:GH) (fn:Func) (args:List TV) (K:TV→GH→Option β):Option β:=
 if fn.origin != "" then none else
 if fn.name == "internal/abi.NoEscape" then
  match args with
  | [x]=>K x H
  |_=>none
 else if fn.name == "internal/bytealg.IndexByteString" then
  match args with
  | [.str s,.byte c]=>match Kc c s 0 with
   |some i=>K (.int .i64 i) H
   |none=>K (.int .i64 (-1)) H
  |_=>none
 else if fn.name == "internal/bytealg.CountString" then
  match args with
  | [.str s,.byte c]=>K (.int .i64 (Kn c s)) H
  |_=>none
 else none
def Bh (P:Program) (sf:eP β) (H:GH) (f:FuncId) (args:List TV) (K:TV→GH→Option β):Option β:=
 match P.funcs[f]? with
 |some fn=>match fn.body with
  |none=>AW H fn args K
  |some _=>sf.call f args H K
 |none=>none
def kP (f:Int→Int→Int):IntKind→Int→List TV→Option TV
 |k,n,[]=>some (.int k n)
 |k,n,.int k' m::r=>if k=k' then kP f k (f n m) r else none
 |_,_,_=>none
def tc (H:GH) (f:Int→Int→Int) (args:List TV) (K:TV→GH→Option β):Option β:=
 match args with
 | .int k n::r=>match kP f k n r with
  |some v=>K v H
  |none=>none
 |_=>none
def mI (cm:Cm β) (H:GH) (x:TV) (K:TV→GH→Option β):Option β:=
 match x with
 | .raw (.slice none 0 0)=>K (.raw (.pointer none)) H
 | .all id=>match H.get id with
  |some (.arr _ _ xs _ _ em)=>match em with
   | .ex=>cm.Rp xs.isEmpty (K (.raw (.pointer none)) H) (K (.ly id 0 0) H)
   |_=>cm.eA (!xs.isEmpty) (K (.ly id 0 0) H)
  |_=>none
 |_=>none
def vy (cm:Cm β) (P:Program) (H:GH) (argTypes:Array TypeId) (p n:TV) (K:TV→GH→Option β):Option β:=
 match p,n with
 | .raw (.pointer none),.int .i64 n=>cm.eA (n==0) (K (.str []) H)
 | .ly id 0 0,.int .i64 n=>match H.get id,argTypes[0]? with
  |some (.arr et e xs _ false em),some pt=>match Sh.same e .byte with
   |some ⟨h⟩=>bif Nat.beq (P.cellsOf et) 1 &&nP P pt et then
     cm.eA (aB 0 n &&aB n xs.length &&aB n roomy) (K (.str ((eQ h xs:List UInt8).take n.toNat)) (H.put id (.arr et e xs false false em))) else none
   |none=>none
  |_,_=>none
 |_,_=>none
def DZ (cm:Cm β) (P:Program) (sh:cr) (H:GH) (argTypes:Array TypeId) (s x:TV) (K:TV→GH→Option β):Option β:=Bi cm P sh H argTypes s x K
def o5 (cm:Cm β) (P:Program) (sh:cr) (H:GH) (b:Builtin) (argTypes:Array TypeId) (args:List TV) (K:TV→GH→Option β):Option β:=
 match b,args with
 | .append,[s,x]=>DZ cm P sh H argTypes s x K
 | .len,[x]=>match argTypes[0]? with
  |some t=>Me P H t x K
  |none=>none
 | .max,args=>tc H (fun x y=>bif aO x y then y else x) args K
 | .min,args=>tc H (fun x y=>bif aO y x then y else x) args K
 | .unsafeSliceData,[x]=>mI cm H x K
 | .unsafeString,[p,n]=>bif argTypes[0]?.isSome then vy cm P H argTypes p n K else none
 |_,_=>none
def te (cm:Cm β) (P:Program) (sh:cr) (sf:eP β) (ρ:Operand→TV) (H:GH) (c:Call) (K:TV→GH→Option β):Option β:=
 match c.callee with
 | .builtin b=>o5 cm P sh H b c.argTypes (c.args.toList.map ρ) K
 | .value f=>match ρ f with
  | .pA l=>HK sf l (c.args.toList.map ρ) H K
  | .fn f first captured=>Bh P sf H f (first++c.args.toList.map ρ++captured) K
  |_=>none
 | .invoke _ _=>none
def Ap:Operand→Operand→Bool
 | .tmp a,.tmp b=>Nat.beq a b
 |_,_=>false
def Tt:Operand→Bool
 | .const _=>true
 |_=>false
def L6 (P:Program) (op:BinOp) (t:TypeId) (x y:Operand) (a b:TV):Option Bool:=
 match P.underlying t,a,b with
 |some (.interface _),.raw .nilIface,.raw .nilIface=>bif Tt x ||Tt y then match op with
   | .eql=>some true
   | .neq=>some false
   |_=>none
  else none
 |_,_,_=>none
def gP (cm:Cm β) (P:Program) (sh:cr) (sf:eP β) (ρ:Operand→TV) (H:GH) (o:Oper) (K:TV→GH→Option β):Option β:=
 match o.op with
 | .move x | .assign x=>K (ρ x) H
 | .pick c a b=>HR H (ρ c) (ρ a) (ρ b) K
 | .alloc e=>tV P H e K
 | .box e x=>Rx H e (ρ x) K
 | .build t parts=>Hh P H t (parts.toList.map fun p=>(p.1,ρ p.2)) K
 | .buildSlice t len parts=>jl P sh H t len (parts.toList.map fun p=>(p.1,ρ p.2)) K
 | .load t a=>tC cm P sh H t (ρ a) K
 | .store t a x=>HY cm P H t (ρ a) (ρ x) K
 | .nilCheck x=>QP H (ρ x) K
 | .binOp op t x y _=>match L6 P op t x y (ρ x) (ρ y) with
  |some b=>K (.bool b) H
  |none=>Po cm P H op t (ρ x) (ρ y) K
 | .unOp op _ x=>Sr H op (ρ x) K
 | .convert src dst x=>pf P H src dst (ρ x) K
 | .makeFunc (.func f) first captured=>K (.fn f (first.toList.map ρ) (captured.toList.map ρ)) H
 | .makeSlice t l c=>kG cm P sh H t (Ap l c) (ρ l) (ρ c) K
 | .slice t x lo hi mx=>HI cm P H t (ρ x) (lo.map ρ) (hi.map ρ) (mx.map ρ) K
 | .fieldAddr s x f=>gh P H s (ρ x) f K
 | .field t x f=>BE P H t (ρ x) f K
 | .indexAddr t x ix=>gW cm P sh H t (ρ x) (Su (ρ ix)) K
 | .index t x ix=>Au cm P H t (ρ x) (Su (ρ ix)) K
 | .range t x=>FH P H t (ρ x) K
 | .makeMap t n=>iI P sh H t (n.map ρ) K
 | .lookup t x k ok=>vc P sh H t (ρ x) (ρ k) ok K
 | .mapUpdate t m k x=>oN cm P H t (ρ m) (ρ k) (ρ x) K
 | .insert t m k x=>oN cm P H t (ρ m) (ρ k) (ρ x) K
 | .next it true=>MY cm H (ρ it) K
 | .extract tp i=>nG H (ρ tp) i K
 | .call c=>te cm P sh sf ρ H c K
 |_=>none
def jV (cm:Cm β) (fi:FI) (ops:Array Oper) (o:Oper) (E:GE) (run skip:GE→Option β):Option β:=
 match o.guard with
 |none=>run E
 |some (j,want)=>match (ops[j]?).bind (·.dst) with
  |some d=>match ez fi E d with
   | .bool b=>cm.Rp b (bif want then run (cA fi d (.bool true) E) else skip (cA fi d (.bool true) E)) (bif want then skip (cA fi d (.bool false) E) else run (cA fi d (.bool false) E))
   | .raw v=>match v with
    | .bool _ | .chan _=>none
    |_=>skip E
   |_=>none
  |none=>none
def pW (cm:Cm β) (P:Program) (sh:cr) (sf:eP β) (fi:FI) (ops:Array Oper):List Oper→GE→GH→(GE→GH→Option β)→Option β
 | [],E,H,K=>K E H
 |o::rest,E,H,K=>
  jV cm fi ops o E (fun E=>gP cm P sh sf (dd fi E) H o fun v H=>pW cm P sh sf fi ops rest (cJ fi E o.dst v) H K)
   (fun E=>pW cm P sh sf fi ops rest (cJ fi E o.dst (.raw Go.undef)) H K)
def BI:List TV→Option (List UInt8)
 | []=>some []
 | .byte c::r=>match BI r with
  |some l=>some (c::l)
  |none=>none
 |_=>none
def Nu (P:Program) (fi:FI) (E:GE) (o o2:Oper):Option (Tmp×Tmp×List UInt8):=
 match o.op,o2.op,o.dst,o2.dst,o.guard,o2.guard with
 | .buildSlice t len parts,.convert src dst (.tmp d'),some d,some d2,none,none=>
  bif Nat.beq d d' &&Nat.beq src dst &&Nat.beq src t &&Nat.blt d fi.nt then
   match P.underlying src,cV P t with
   |some (.slice e0),some (e,i)=>match P.underlying e0,zeroOf P e with
    |some (.int .u8),some z=>
     bif Nat.ble (len*(i.size+1)) (2^24) &&(parts.toList.map fun p=>(p.1,dd fi E p.2)).all (fun p=>p.2.ok) &&Nat.beq z.cells.size i.size &&z.cells.toList.all fJ &&Nat.beq i.size 1 then
      match rF (fun j=>some (j*i.size,i.size)) (OQ (z.cells.toList.map jB) len) (parts.toList.map fun p=>(p.1,dd fi E p.2)) with
      |some cells=>match BI cells with
       |some bs=>bif Nat.beq bs.length len then some (d,d2,bs) else none
       |none=>none
      |none=>none
     else none
    |_,_=>none
   |_,_=>none
  else none
 |_,_,_,_,_,_=>none
def ue (cm:Cm β) (P:Program) (sh:cr) (sf:eP β) (fi:FI) (ops:Array Oper):List Oper→GE→GH→(GE→GH→Option β)→Option β
 | [],E,H,K=>K E H
 | [o],E,H,K=>
  jV cm fi ops o E (fun E=>gP cm P sh sf (dd fi E) H o fun v H=>K (cJ fi E o.dst v) H)
   (fun E=>K (cJ fi E o.dst (.raw Go.undef)) H)
 |o::o2::rest,E,H,K=>match Nu P fi E o o2 with
  |some (d,d2,bs)=>ue cm P sh sf fi ops rest (cJ fi (cJ fi E (some d) (.aC .byte bs (some false) false)) (some d2) (.aC .byte bs (some false) false)) H K
  |none=>jV cm fi ops o E (fun E=>gP cm P sh sf (dd fi E) H o fun v H=>ue cm P sh sf fi ops (o2::rest) (cJ fi E o.dst v) H K)
   (fun E=>ue cm P sh sf fi ops (o2::rest) (cJ fi E o.dst (.raw Go.undef)) H K)
def fG:TV→Bool
 | .int _ _ | .byte _ | .str _ | .bool _=>true
 |_=>false
def G0:TV→Bool
 | .agg _=>true
 |t=>fG t
def jj (ρ:Operand→TV) (o:Oper):Option (List Nat×Bool):=
 match o.op with
 | .load _ a=>match ρ a with
  | .ptr id _=>some ([id],false)
  | .ly id _ _=>some ([id],false)
  | .my _=>some ([],true)
  |_=>none
 | .binOp _ _ x y _=>bif G0 (ρ x) &&G0 (ρ y) then some ([],false) else none
 | .lookup _ x _ _=>match ρ x with
  | .mp id=>some ([id],false)
  | .raw (.map none)=>some ([],false)
  |_=>none
 | .call c=>match c.callee with
  | .builtin .len=>match c.args.toList with
   | [x]=>match ρ x with
    | .str _ | .aC _ _ _ _ | .all _ | .own _ _ _=>some ([],false)
    | .raw (.slice none 0 0)=>some ([],false)
    | .mp id=>some ([id],false)
    |_=>none
   |_=>none
  | .builtin .max=>some ([],false)
  | .builtin .min=>some ([],false)
  | .builtin .unsafeSliceData=>some ([],false)
  |_=>none
 | .convert _ _ x=>match ρ x with
  | .all id=>some ([id],false)
  | .own id _ _=>some ([id],false)
  | .int _ _ | .byte _ | .str _=>some ([],false)
  | .aC _ _ _ _=>some ([],true)
  |_=>none
 |_=>none
def kq:TV→Bool
 | .int _ _ | .byte _ | .bool _ | .str _ | .ptr _ _ | .ly _ _ _ | .my _ | .aC _ _ _ _ | .all _ | .own _ _ _ | .mp _=>true
 | .raw v=>match v with
  | .bool _ | .int _ _ | .string _ | .pointer _ | .slice _ _ _ | .map _ | .nilFunc | .nilIface=>true
  |_=>false
 |_=>false
def Ik:TV→Bool
 | .agg cs=>cs.all kq
 | .jI cs=>cs.all kq
 | .fn _ a c=>a.all kq &&c.all kq
 |t=>kq t
def JH (aP:List Nat):Operand→Bool
 | .tmp t=> !xD aP t
 |_=>false
def tt (ρ:Operand→TV) (aP:List Nat) (o:Oper):Bool:=
 match o.op with
 | .move x | .assign x=>JH aP x
 | .indexAddr _ x ix=>JH aP x &&(match ρ x,ρ ix with
  | .aC _ _ _ _,.int _ _=>true
  |_,_=>false)
 | .fieldAddr _ x _=>JH aP x &&(match ρ x with
  | .my _=>true
  |_=>false)
 |_=>false
def tq (ρ:Operand→TV) (aP:List Nat) (o:Oper):Bool:=
 match o.op with
 | .load _ a=>JH aP a &&(match ρ a with
  | .my _=>true
  |_=>false)
 |_=>false
def hY (b:Bool) (d:Option Tmp) (aP:List Nat):List Nat:=
 bif b then aP else match d with
  |some d=>d::aP
  |none=>aP
structure RA where
 i:Nat
 ids:List Nat
 st:List (Option Nat)
structure OV where
 E:GE
 H:GH
 cf:List (Nat×Option GH)
 reads:List RA
 aP:List Nat
 pn:List Nat
 po:List (Nat×Nat)
def wB:List (Option Nat)→List (Option Nat)→Bool
 | [],[]=>true
 |some a::r,some b::r'=>Nat.beq a b &&wB r r'
 |_,_=>false
def n8 (H:GH) (ids:List Nat) (p:Bool) (m:Nat):List (Nat×Option GH)→Bool
 | []=>true
 |(c,q)::rest=>(m.testBit c ||(match q with
  |some Hc=> !p &&wB (ids.map Hc.bh) (ids.map H.bh)
  |none=>false)) &&n8 H ids p m rest
def kL (H:GH) (m:Nat):List RA→Bool
 | []=>true
 |r::rest=>(m.testBit r.i ||wB r.st (r.ids.map H.bh)) &&kL H m rest
def ou (m:Nat):List (Nat×Option GH)→Bool
 | []=>true
 |(c,_)::rest=>m.testBit c &&ou m rest
def L1:Option cb→Bool
 |some (.map ..)=>true
 |_=>false
def gX (po:List (Nat×Nat)):List Nat→List Nat
 | []=> []
 |j::r=>match po.find? (fun p=>Nat.beq p.1 j) with
  |some p=>p.2::gX po r
  |none=>gX po r
def F9 (H:GH) (po:List (Nat×Nat)) (js:List Nat):Bool:=js.all fun j=>match po.find? (fun p=>Nat.beq p.1 j) with
 |some p=>L1 (H.get p.2)
 |none=>false
def NK (ρ:Operand→TV) (H:GH) (po:List (Nat×Nat)) (js:List Nat) (o:Oper):Bool:=
 match o.op with
 | .store _ a _=>match ρ a with
  | .ptr id _=>match H.get id with
   |some (.cells _ _ true)=>F9 H po js
   |_=>false
  |_=>false
 |_=>false
def rX:List Nat→GH→GH
 | [],H=>H
 |k::r,H=>rX r (H.del k)
def pK (cm:Cm β) (P:Program) (sh:cr) (sf:eP β) (fi:FI) (ops:Array Oper) (i:Nat) (o:Oper) (m:Nat) (s:OV) (K:OV→Option β):Option β:=
 jV cm fi ops o s.E (fun E=>
  match kindOf P o with
  | .pure=>bif tt (dd fi E) s.aP o then gP cm P sh sf (dd fi E) s.H o fun v H=>K { s with E:=cJ fi E o.dst v,H:=H }
    else gP cm P sh sf (dd fi E) s.H o fun v H=>K { s with E:=cJ fi E o.dst v,H:=H,aP:=hY (fG v) o.dst s.aP }
  | .read=>bif tq (dd fi E) s.aP o then
     gP cm P sh sf (dd fi E) s.H o fun v H=>bif Ik v then K { s with E:=cJ fi E o.dst v,H:=H,reads:=⟨i,[],[]⟩::s.reads } else none
    else match jj (dd fi E) o with
   |some (ids,p)=>bif (s.pn.isEmpty ||(ids.isEmpty && !p)) &&n8 s.H ids p m s.cf then
     gP cm P sh sf (dd fi E) s.H o fun v H=>bif Ik v then K { s with E:=cJ fi E o.dst v,H:=H,reads:=⟨i,ids,ids.map s.H.bh⟩::s.reads,aP:=hY (fG v) o.dst s.aP } else none
    else none
   |none=>none
  | .fresh=>match o.op with
   | .buildSlice _ _ _=>gP cm P sh sf (dd fi E) s.H o fun v H=>K { s with E:=cJ fi E o.dst v,H:=H,aP:=hY (fG v) o.dst s.aP,pn:=i::s.pn }
   | .alloc _=>gP cm P sh sf (dd fi E) s.H o fun v H=>K { s with E:=cJ fi E o.dst v,H:=H,aP:=hY (fG v) o.dst s.aP,pn:=i::s.pn }
   | .makeSlice _ _ _=>gP cm P sh sf (dd fi E) s.H o fun v H=>K { s with E:=cJ fi E o.dst v,H:=H,aP:=hY (fG v) o.dst s.aP,pn:=i::s.pn }
   | .makeMap _ _=>gP cm P sh sf (dd fi E) s.H o fun v H=>K { s with E:=cJ fi E o.dst v,H:=H,aP:=hY (fG v) o.dst s.aP,pn:=i::s.pn,po:=(i,s.H.n)::s.po }
   |_=>none
  | .chain=>bif ou m s.cf then
    bif s.pn.all (fun j=>m.testBit j) then
    gP cm P sh sf (dd fi E) s.H o fun v H=>
     bif kL H m s.reads then K { E:=cJ fi E o.dst v,H:=H,cf:=(i,bif s.pn.isEmpty then some s.H else none)::s.cf,reads:=s.reads,aP:=hY (fG v) o.dst s.aP,pn:= [],po:=s.po } else none
    else bif NK (dd fi E) s.H s.po (s.pn.filter fun j=> !m.testBit j) o then
    gP cm P sh sf (dd fi E) s.H o fun v H=>
     bif F9 H s.po (s.pn.filter fun j=> !m.testBit j) &&kL (rX (gX s.po (s.pn.filter fun j=> !m.testBit j)) H) m s.reads then K { E:=cJ fi E o.dst v,H:=H,cf:=(i,none)::s.cf,reads:=s.reads,aP:=hY (fG v) o.dst s.aP,pn:=s.pn.filter fun j=> !m.testBit j,po:=s.po } else none
    else none
   else none)
  (fun E=>K { s with E:=cJ fi E o.dst (.raw Go.undef) })
def oI (cm:Cm β) (P:Program) (sh:cr) (sf:eP β) (fi:FI) (ops:Array Oper):List Oper→Nat→List Nat→OV→(OV→Option β)→Option β
 | [],_,_,s,K=>K s
 |_::_,_,[],_,_=>none
 |o::rest,i,m::ms,s,K=>pK cm P sh sf fi ops i o m s fun s=>oI cm P sh sf fi ops rest (i+1) ms s K
def Oj (cm:Cm β) (P:Program) (sh:cr) (sf:eP β) (fi:FI) (ops:Array Oper) (E:GE) (H:GH) (K:GE→GH→Option β):Option β:=
 bif oZ ops (cR ops.toList []) then
  oI cm P sh sf fi ops ops.toList 0 (cR ops.toList []) ⟨E,H,[],[],[],[],[]⟩ fun s=>K s.E s.H
 else none
def c7:Code→Nat
 | .region id _ _=>id
 | .seq a _=>c7 a
 | .block _ c=>c7 c
 | .scope c=>c7 c
 | .loop c=>c7 c
 |_=>0
def quiet (P:Program) (sh:cr) (o:Oper):Bool:=
 match o.op with
 | .move _ | .assign _ | .pick .. | .binOp .. | .unOp .. | .index .. | .field .. | .fieldAddr .. | .indexAddr .. | .extract .. =>true
 | .load t _=>sh.Oz.isEmpty || !Sf P t
 | .convert src _ _=>match P.underlying src with
  |some (.int _)=>true
  |_=>false
 | .call c=>match c.callee with
  | .builtin .len=>true
  |_=>false
 |_=>false
def Cd (fi:FI):List Oper→List Tmp
 | []=> []
 |o::r=>match o.dst with
  |some d=>match cls fi d with
   | .loc=>d::Cd fi r
   |_=>Cd fi r
  |none=>Cd fi r
def Mg (P:Program) (sh:cr) (fi:FI) (ops:Array Oper):Option Tmp:=
 bif ops.toList.any (fun o=>o.guard.isSome) &&ops.toList.all (quiet P sh) then match Cd fi ops.toList with
  | [d]=>some d
  | []=>match ops.toList.getLast?.bind (·.dst) with
   |some d=>match cls fi d with
    | .tmp=>some d
    |_=>none
   |none=>none
  |_=>none
 else none
def vx:TV→Option Bool
 | .bool b=>some b
 |_=>none
def Je (fi:FI) (c:Operand) (b:Bool) (E:GE):GE:=match c with
 | .tmp t=>cA fi t (.bool b) E
 |_=>E
def BM:eP β:=⟨fun _ _ _ _ _ _ _=>none,fun _ _ _ _=>none,fun _ _ _ d _ _ _=>d⟩
def gC (cx:Cx β) (P:Program) (sh:cr) (sf:eP β) (bB:Nat) (fi:FI) (ro:Option Nat):Code→GE→GH→(X→GE→GH→Option β)→Option β
 | .skip,E,H,K=>K .normal E H
 | .region _ ops false,E,H,K=>match Mg P sh fi ops with
  |some d=>cx.jn (fun cm=>pW cm P sh BM fi ops ops.toList E.reset H fun E _=>vx (ez fi E d)) fun b=>K .normal (cA fi d (.bool b) E.reset) H
  |none=>ue cx.cm P sh sf fi ops ops.toList E.reset H fun E H=>K .normal E H
 | .region _ ops true,E,H,K=>Oj cx.cm P sh sf fi ops E.reset H fun E H=>K .normal E H
 | .seq a b,E,H,K=>gC cx P sh sf bB fi ro a E H fun x E H=>match x with
  | .normal=>gC cx P sh sf bB fi ro b E H K
  |x=>K x E H
 | .cond c a b,E,H,K=>match dd fi E c with
  | .bool t=>cx.cm.Rp t (gC cx P sh sf bB fi ro a (Je fi c true E) H K) (gC cx P sh sf bB fi ro b (Je fi c false E) H K)
  |_=>none
 | .block id c,E,H,K=>gC cx P sh sf bB fi ro c E H fun x E H=>match x with
  | .exit j=>bif Nat.beq j id then K .normal E H else K (.exit j) E H
  |x=>K x E H
 | .loop c,E,H,K=>sf.loop bB (c7 c) ro (gC cx P sh sf bB fi ro c E H fun x E H=>match x with
   | .normal=>sf.code bB fi ro (.loop c) E H K
   |x=>K x E H) E H K
 | .rangeFunc f ps dK body,E,H,K=>
  bif (match ro with
   |none=>true
   |some l=>match H.get l with
    |some (.loop ..)=>true
    |_=>false) then
   match dd fi E f with
   | .fn g first captured=>
    sf.call g (first++ [TV.pA H.n]++captured) (H.new (.loop bB .ready none fi E ps.toList dK body)) fun _ H1=>
     match H1.get H.n with
     |some (.loop bB st pd fi2 E2 ps dK body)=>
      bif st==LoopState.busy then none else
      match pd with
      |none=>K .normal E (H1.put H.n (.loop bB .exhausted pd fi2 E2 ps dK body))
      |some .ret=>K .ret E (H1.put H.n (.loop bB .exhausted pd fi2 E2 ps dK body))
      |some (.exit id)=>K (.exit id) E (H1.put H.n (.loop bB .exhausted pd fi2 E2 ps dK body))
      |_=>none
     |_=>none
   |_=>none
  else none
 | .exit id,E,H,K=>K (.exit id) E H
 | .scope c,E,H,K=>gC cx P sh sf bB fi ro c E H K
 | .label _,E,H,K=>K .normal E H
 | .goto _,_,_,_=>none
 | .ret,E,H,K=>K .ret E H
 | .refuse _,_,_,_=>none
def Pn (P:Program) (fi:FI) (E:GE) (H:GH):ResultVar→Option TV
 | .tmp t=>some (ez fi E t)
 | .cell a t=>match ez fi E a with
  | .ptr id off=>match H.get id with
   |some (.cells _ cs _)=>bif Nat.ble off cs.length then fb P t (cs.drop off) else none
   |_=>none
  |_=>none
def wu (P:Program) (fi:FI) (E:GE) (H:GH):List ResultVar→Option (List TV)
 | []=>some []
 |r::rs=>match Pn P fi E H r,wu P fi E H rs with
  |some v,some vs=>some (v::vs)
  |_,_=>none
def Ew:Nat→List TV→Gi
 |_,[]=> .e
 |i,v::r=> .c i v (Ew (i+1) r)
def D7 (cx:Cx β) (P:Program) (sh:cr) (hint:Hint) (sf:eP β) (f:FuncId) (args:List TV) (H:GH) (K:TV→GH→Option β):Option β:=
 match P.funcs[f]? with
 |some fn=>match fn.body with
  |some c=>bif Nat.ble args.length fn.ntmps then
    gC cx P sh sf f (gF hint f fn) none c ⟨Ew 0 args,.e⟩ H fun x E H=>match x with
     | .normal | .ret=>match wu P (gF hint f fn) E H fn.results.toList with
      |some [v]=>K v H
      |some vs=>K (.jI vs) H
      |none=>none
     |_=>none
   else none
  |none=>none
 |none=>none
structure xY (β:Type) where
 call:FuncId→Option (Nat→List TV→GH→(TV→GH→Option β)→Option β)
 loop:Nat→Nat→Option Nat→Option (Nat→GE→GH→(X→GE→GH→Option β)→Option (Option β))
def gT:Nat:=1048576
def lD:List Nat→FuncId→Option (Nat×Nat)
 |k::f'::g::r,f=>bif Nat.beq f f' then some (k,g) else lD r f
 |_,_=>none
def kE:List Int:= [1,10,100,1000,10000,100000,1000000,10000000,100000000,1000000000,10000000000,100000000000,1000000000000,10000000000000,100000000000000,1000000000000000,10000000000000000,100000000000000000,1000000000000000000,10000000000000000000]
def j8 (n:Int):Bool:=aB (-9223372036854775808) n &&aB n 9223372036854775807
def A4 (I:IH) (g:Nat) (vs:List Value):Prop:=∃ cs et fz ex sd,I.get g=some (.cells cs et fz ex sd)∧ex=true∧cs.length=vs.length∧∀ (i:Nat) (v:Value),vs[i]? =some v→cs[i]? =some v
def mn (cs:List UInt8):Bool:=Nat.ble 2 cs.length &&Nat.ble cs.length 4294967280 &&cs.all fun c=>Nat.blt c.toNat 128
def qC:List UInt8:=Go.Pinned.utf8FirstZ.map UInt8.ofNat
def JW:List (UInt8×UInt8):= [(128,191),(160,191),(128,159),(144,191),(128,143),(0,0),(0,0),(0,0),(0,0),(0,0),(0,0),(0,0),(0,0),(0,0),(0,0),(0,0)]
def rb (c:UInt8):Value:= .int .u8 c.toNat
open Classical in
def iH (k g:Nat) (args:List Value) (I:IH):Option Value:=
 match k,args with
 |0,[]=>some (.bool true)
 |1,[.int .i64 n]=>if j8 n=true∧g<bT∧A4 I g (kE.map fun z=> .int .u64 z) then some (.string (ba (Lib.itoa n))) else none
 |2,[.string s,.string cs]=>bif mn (bl cs) then some (.string (ba (Lib.trimLeftS (bl s) (bl cs)))) else none
 |3,[.string s]=>if Nat.ble (bl s).length 9223372036854775807=true∧(g / 1000<bT∧g%1000<bT)∧A4 I (g / 1000) (qC.map rb)∧A4 I (g%1000) (JW.flatMap fun p=> [rb p.1,rb p.2]) then some (.bool (Lib.validD (bl s))) else none
 |_,_=>none
def IP (k g:Nat) (args:List Value) (I:IH):Option (Iv.End×IH):=(iH k g args I).map fun v=>(.returned v,I)
def cw (hint:Hint):Iv.Spec:=fun f args I=>match lD (hint gT) f with
 |some (k,g)=>IP k g args I
 |none=>none
def QF (sh:cr) (g:Nat):Bool:=
 match sh.tb g with
 |some ⟨.int .u64,xs⟩=>(xs:List Int)==kE
 |_=>false
def Sg (sh:cr) (g1 g2:Nat):Bool:=
 (match sh.tb g1 with
 |some ⟨.byte,xs⟩=>(xs:List UInt8)==qC
 |_=>false) &&(match sh.tb g2 with
 |some ⟨.cons .byte .byte,ys⟩=>(ys:List (UInt8×UInt8))==JW
 |_=>false)
def zi (cm:Cm β) (sh:cr) (k g:Nat) (args:List TV) (H:GH) (K:TV→GH→Option β):Option (Option β):=
 match k,args with
 |0,[]=>some (K (.bool true) H)
 |1,[.int .i64 n]=>some (bif Nat.blt g bT &&QF sh g then cm.eA (j8 n) (K (.str (Lib.itoa n)) H) else none)
 |2,[.str s,.str cs]=>bif mn cs then some (K (.str (Lib.trimLeftS s cs)) H) else none
 |3,[.str s]=>some (bif Nat.blt (g / 1000) bT &&(Nat.blt (g%1000) bT &&Sg sh (g / 1000) (g%1000)) then cm.eA (Nat.ble s.length 9223372036854775807) (K (.bool (Lib.validD s)) H) else none)
 |_,_=>some none
def Mt:Nat:=1048577
def Ce:Nat:=1048578
def LS:List Nat→Nat→Nat→Bool
 |a::b::r,x,y=>bif Nat.beq a x &&Nat.beq b y then true else LS r x y
 |_,_,_=>false
def gv (cx:Cx β) (P:Program) (sh:cr) (hint:Hint) (hk:xY β):Nat→eP β
 |0=>⟨fun _ _ _ _ _ _ _=>none,fun _ _ _ _=>none,fun bB r ro d E H K=>bif LS (hint Ce) bB r then none else match hk.loop bB r ro with
   |some f=>match f 0 E H K with
    |some r=>r
    |none=>d
   |none=>d⟩
 |n+1=>⟨gC cx P sh (gv cx P sh hint hk n),fun f args H K=>match lD (hint gT) f with
   |some (k,g)=>match zi cx.cm sh k g args H K with
    |some r=>r
    |none=>match hk.call f with
     |some h=>h n args H K
     |none=>D7 cx P sh hint (gv cx P sh hint hk n) f args H K
   |none=>bif xD (hint Mt) f then none else match hk.call f with
   |some h=>h n args H K
   |none=>D7 cx P sh hint (gv cx P sh hint hk n) f args H K,
  fun bB r ro d E H K=>bif LS (hint Ce) bB r then none else match hk.loop bB r ro with
   |some f=>match f (n+1) E H K with
    |some r=>r
    |none=>d
   |none=>d⟩
end
end Go.Gv
