/- The pure evaluator (the second part): calls, regions, code. -/
import Derived.Test.YtnddpppljnjmcaaGreatDoorGvBase
import Derived.Lib.ItoaNum
import Derived.Lib.SlTrimSet
import Derived.Lib.ValidU
import GoSem.PinnedTables
set_option linter.unusedSimpArgs false
set_option linter.unusedVariables false
namespace Go.Gv
open Go Go.Iv
noncomputable section
variable {β:Type}
structure GSelf (β:Type) where
 code:Nat→FI→Option Nat→Code→GE→GH→(X→GE→GH→Option β)→Option β
 call:FuncId→List TV→GH→(TV→GH→Option β)→Option β
 loop:Nat→Nat→Option Nat→Option β→GE→GH→(X→GE→GH→Option β)→Option β
def closeN (H:GH) (id:Nat):GH:=match H.get id with
 |some (.nest et e no net ne xs em (some (i,n,x)))=>match H.get n with
  |some (.arr net' ne' ys true false .ex)=>bif Nat.beq net' net then (match Sh.same ne' ne with
    |some ⟨h⟩=>(H.del n).put id (.nest et e no net ne (xs.set i (nestSet e no ne x (castL h ys))) em none)
    |none=>H) else H
  |_=>H
 |_=>H
def gLoadP (cm:Cm β) (P:Program) (H:GH) (t:TypeId) (id i off:Nat) (K:TV→GH→Option β):Option β:=
 match H.get id with
 |some (.nest _ e no _ _ xs _ _)=>bif Nat.ble off e.sz then cm.opt xs[i]? fun x=>match atCells P t (((e.tvs x).set no .undef).drop off) with
   |some v=>K v H
   |none=>none
  else none
 |_=>none
def gOut (cm:Cm β) (H:GH) (id i off:Nat) (K:TV→GH→Option β):Option β:=
 match H.get id with
 |some (.nest et e no net ne xs em none)=>bif Nat.beq off no then cm.opt xs[i]? fun x=>
   K (.all H.n) ((H.put id (.nest et e no net ne xs em (some (i,H.n,x)))).new (.arr net ne (nestGet e no ne x) true false .ex))
  else none
 |_=>none
def isNest (H:GH) (id:Nat):Option Nat:=match H.get id with
 |some (.nest _ _ no _ _ _ _ _)=>some no
 |_=>none
def closeM (H:GH) (id:Nat):GH:=match H.get id with
 |some (.mapn kt gk k net ne xs (some (x,n)))=>match H.get n with
  |some (.arr net' ne' ys true false .ex)=>bif Nat.beq net' net then (match Sh.same ne' ne with
    |some ⟨h⟩=>(H.del n).put id (.mapn kt gk k net ne (mset k xs x (castL h ys)) none)
    |none=>H) else H
  |_=>H
 |_=>H
def isMapn (H:GH):TV→Option Nat
 | .mp id=>match H.get id with
  |some (.mapn ..)=>some id
  |_=>none
 |_=>none
def nilZ (P:Program) (e:TypeId):Bool:=match zeroOf P e with
 |some (.slice none 0 0)=>true
 |_=>false
def gOutM (P:Program) (H:GH) (t:TypeId) (id:Nat) (k:TV) (K:TV→GH→Option β):Option β:=
 match mapTy P t,H.get id with
 |some (kt,e),some (.mapn kt' gk ks net ne xs none)=>bif Nat.beq kt kt' &&nilZ P e then
   match keyT gk ks k with
   |some kx=>K (.all H.n) ((H.put id (.mapn kt' gk ks net ne xs (some (kx,H.n)))).new (.arr net ne (mgetD ks xs kx []) true false .ex))
   |none=>none
  else none
 |_,_=>none
def hoB (ks:Sh) (kx:ks.ty):Option (ks.ty×Nat)→Bool
 |none=>true
 |some p=>ks.eqK p.1 kx
def gFillM (cm:Cm β) (P:Program) (H:GH) (t:TypeId) (id:Nat) (k v:TV) (K:TV→GH→Option β):Option β:=
 match v with
 | .all m=>match mapTy P t,H.get id,H.get m with
  |some (kt,_),some (.mapn kt' gk ks net ne xs ho),some (.arr net' ne' ys true false em)=>bif Nat.beq kt kt' &&Nat.beq net' net then
    match keyT gk ks k,Sh.same ne' ne with
    |some kx,some ⟨h⟩=>cm.need ((match em with
      | .ex=>true
      |_=> !ys.isEmpty) &&hoB ks kx ho) (K .undef ((H.del m).put id (.mapn kt' gk ks net ne (mput ks xs kx (castL h ys)) none)))
    |_,_=>none
   else none
  |_,_,_=>none
 |_=>none
def gNewM (P:Program) (sh:ShT) (H:GH) (t:TypeId) (r:Option TV) (K:TV→GH→Option β):Option β:=
 match mapTy P t with
 |some (kt,e)=>match P.underlying e with
  |some (.slice net)=>match sh.ty kt,sh.ty net,isAggB P kt with
   |some ks,some ne,some gk=>bif (match r with
     |none=>true
     |some (.int _ _)=>true
     |_=>false) &&keyOK P kt gk ks &&Nat.blt 0 ne.sz then K (.mp H.n) (H.new (.mapn kt gk ks net ne [] none)) else none
   |_,_,_=>none
  |_=>none
 |none=>none
def memT (t:Nat):List Nat→Bool
 | []=>false
 |a::r=>Nat.beq a t ||memT t r
def gMakeMapN (P:Program) (sh:ShT) (H:GH) (t:TypeId) (r:Option TV) (K:TV→GH→Option β):Option β:=
 bif memT t sh.mpn then gNewM P sh H t r K else gMakeMap P sh H t r K
def gLookupN (P:Program) (sh:ShT) (H:GH) (t:TypeId) (x k:TV) (ok:Bool) (K:TV→GH→Option β):Option β:=
 match isMapn H x with
 |some id=>bif ok then none else gOutM P (closeM H id) t id k K
 |none=>gLookup P sh H t x k ok K
def gMapUpdN (cm:Cm β) (P:Program) (H:GH) (t:TypeId) (m k v:TV) (K:TV→GH→Option β):Option β:=
 match isMapn H m with
 |some id=>gFillM cm P H t id k v K
 |none=>gMapUpd cm P H t m k v K
def isSl (P:Program) (t:TypeId):Bool:=match P.underlying t with
 |some (.slice _)=>true
 |_=>false
def gLoadN (cm:Cm β) (P:Program) (sh:ShT) (H:GH) (t:TypeId) (a:TV) (K:TV→GH→Option β):Option β:=
 match sh.nst with
 | []=>gLoad cm P H t a K
 |_=>match a with
  | .elm id i off=>match isNest H id with
   |some no=>bif isSl P t &&Nat.beq off no then match isAggB P t with
     |some false=>gOut cm (closeN H id) id i off K
     |_=>none
    else gLoadP cm P H t id i off K
   |none=>gLoad cm P H t a K
  |_=>gLoad cm P H t a K
def gFill (cm:Cm β) (H:GH) (id i m:Nat) (K:TV→GH→Option β):Option β:=
 match H.get id,H.get m with
 |some (.nest et e no net ne xs em ho),some (.arr net' ne' ys true false em')=>
  bif Nat.beq net' net then match Sh.same ne' ne with
   |some ⟨h⟩=>cm.need (match em' with
     | .ex=>true
     |_=> !ys.isEmpty) (match ho with
    |none=>cm.opt xs[i]? fun x=>K .undef ((H.del m).put id (.nest et e no net ne (xs.set i (nestSet e no ne x (castL h ys))) em none))
    |some (j,n,x)=>bif Nat.beq n m ||(H.get n).isNone then cm.need (Nat.beq i j) (K .undef ((H.del m).put id (.nest et e no net ne (xs.set i (nestSet e no ne x (castL h ys))) em none))) else none)
   |none=>none
  else none
 |_,_=>none
def gStoreP (cm:Cm β) (H:GH) (id i off:Nat) (vs:List TV) (K:TV→GH→Option β):Option β:=
 match H.get id with
 |some (.nest et e no net ne xs em none)=>cm.opt xs[i]? fun x=>
  bif (Nat.ble (off+vs.length) no ||Nat.blt no off) &&Nat.ble (off+vs.length) e.sz && !vs.isEmpty then
   match e.ofAll (setRunG (e.tvs x) off vs) with
   |some y=>K .undef (H.put id (.nest et e no net ne (xs.set i y) em none))
   |none=>none
  else none
 |_=>none
def plainC:TV→Bool
 | .int _ _ | .byte _ | .bool _ | .str _=>true
 |_=>false
def gStoreN (cm:Cm β) (P:Program) (H:GH) (t:TypeId) (a v:TV) (K:TV→GH→Option β):Option β:=
 match a with
 | .elm id i off=>match isNest H id with
  |some no=>match P.info? t with
   |some inf=>bif Nat.beq v.cells.length inf.size &&v.cells.all TV.one then
     bif Nat.beq off no &&Nat.beq v.cells.length 1 then match v with
      | .all m=>gFill cm H id i m K
      |_=>none
     else bif v.cells.all plainC then gStoreP cm (closeN H id) id i off v.cells K else none
    else none
   |none=>none
  |none=>gStore cm P H t a v K
 |_=>gStore cm P H t a v K
def gIndexAddrN (cm:Cm β) (P:Program) (sh:ShT) (H:GH) (t:TypeId) (x ix:TV) (K:TV→GH→Option β):Option β:=
 match P.underlying t,x,ix with
 |some (.slice e),.all id,.int _ i=>match P.info? e,H.get id with
  |some inf,some (.nest _ s _ _ _ xs _ _)=>bif Nat.beq s.sz inf.size then cm.need (ile 0 i &&ilt i xs.length) (K (.elm id i.toNat 0) H) else none
  |_,_=>gIndexAddr cm P sh H t x ix K
 |_,_,_=>gIndexAddr cm P sh H t x ix K
def gLenN (P:Program) (H:GH) (t:TypeId) (x:TV) (K:TV→GH→Option β):Option β:=
 match P.underlying t,x with
 |some (.slice _),.all id=>match H.get id with
  |some (.nest _ _ _ _ _ xs _ _)=>K (.int .i64 xs.length) H
  |_=>gLen P H t x K
 |_,_=>gLen P H t x K
def isNilT:Option TV→Bool
 |some (.raw (.slice none 0 0))=>true
 |_=>false
def nilAll (no sz:Nat):Nat→List TV→Bool
 |0,_=>true
 |n+1,l=>isNilT l[no]? &&nilAll no sz n (l.drop sz)
def gMakeSliceN (cm:Cm β) (P:Program) (sh:ShT) (H:GH) (t:TypeId) (eq:Bool) (l c:TV) (K:TV→GH→Option β):Option β:=
 match (match elemSize P t with
  |some (e,_)=>nstOf sh.nst e
  |none=>none) with
 |none=>gMakeSlice cm P sh H t eq l c K
 |some (no,net)=>match elemSize P t,l,c with
  |some (e,i),.int .i64 l,.int .i64 c=>
   match zeroOf P e,sh.ty e,sh.ty net with
   |some z,some s,some ne=>bif Nat.beq z.cells.size i.size &&z.cells.toList.all byteOK &&Nat.beq s.sz i.size &&okN s no ne &&eq then
    match s.ofAll (z.cells.toList.map conv1) with
    |some zz=>bif (nestGet s no ne zz).isEmpty &&isNilT (z.cells.toList.map conv1)[no]? then
      cm.need (ile 0 l &&ile l c &&ile (c*(i.bytes+1)) roomy) (K (.all H.n) (H.new (.nest e s no net ne (List.replicate c.toNat zz) .no none))) else none
    |none=>none
    else none
   |_,_,_=>none
  |_,_,_=>none
def gBuildSliceN (P:Program) (sh:ShT) (H:GH) (t:TypeId) (len:Nat) (ps:List (Nat×TV)) (K:TV→GH→Option β):Option β:=
 match (match elemSize P t with
  |some (e,_)=>nstOf sh.nst e
  |none=>none) with
 |none=>gBuildSlice P sh H t len ps K
 |some (no,net)=>match elemSize P t with
  |some (e,i)=>
   bif Nat.ble (len*(i.size+1)) (2^24) &&ps.all (fun p=>p.2.ok) then
    match zeroOf P e,sh.ty e,sh.ty net with
    |some z,some s,some ne=>bif Nat.beq z.cells.size i.size &&z.cells.toList.all byteOK &&Nat.beq s.sz i.size &&okN s no ne then
     match fillG (fun j=>some (j*i.size,i.size)) (repG (z.cells.toList.map conv1) len) ps with
     |some cells=>match pureL cells H with
      |some (cells,H)=>match rowsOf s len cells with
       |some xs=>bif xs.all (fun x=>(nestGet s no ne x).isEmpty) &&nilAll no s.sz len cells then K (.all H.n) (H.new (.nest e s no net ne xs .no none)) else none
       |none=>none
      |none=>none
     |none=>none
     else none
    |_,_,_=>none
   else none
  |none=>none
def putArgsG (fi:FI):List Tmp→List TV→GE→GE
 |t::ts,a::as,E=>putArgsG fi ts as (putGE fi t a E)
 |_,_,E=>E
def gYield (sf:GSelf β) (l:Nat) (args:List TV) (H:GH) (K:TV→GH→Option β):Option β:=
 match H.get l with
 |some (.loop fid .ready _ fi E ps asg body)=>
  bif Nat.beq args.length ps.length then
   sf.code fid fi (some l) asg (putArgsG fi ps args E) H fun x E1 H1=>match x with
    | .normal=>match H1.get l with
     |some (.loop fid1 .ready pd1 fi1 F1 ps1 asg1 body1)=>
      sf.code fid fi (some l) body E1 (H1.put l (.loop fid1 .busy pd1 fi1 F1 ps1 asg1 body1)) fun x _ H2=>
       match H2.get l with
       |some (.loop fid2 _ _ fi2 F2 ps2 asg2 body2)=>match x with
        | .normal=>K (.bool true) (H2.put l (.loop fid2 .ready none fi2 F2 ps2 asg2 body2))
        | .ret=>K (.bool false) (H2.put l (.loop fid2 .done (some .ret) fi2 F2 ps2 asg2 body2))
        | .exit id=>K (.bool false) (H2.put l (.loop fid2 .done (some (.exit id)) fi2 F2 ps2 asg2 body2))
        | .panic _=>none
       |_=>none
     |_=>none
    |_=>none
  else none
 |_=>none
def gExtern (H:GH) (fn:Func) (args:List TV) (K:TV→GH→Option β):Option β:=
 if fn.origin != "" then none else
 if fn.name == "internal/abi.NoEscape" then
  match args with
  | [x]=>K x H
  |_=>none
 else if fn.name == "internal/bytealg.IndexByteString" then
  match args with
  | [.str s,.byte c]=>match idxB c s 0 with
   |some i=>K (.int .i64 i) H
   |none=>K (.int .i64 (-1)) H
  |_=>none
 else if fn.name == "internal/bytealg.CountString" then
  match args with
  | [.str s,.byte c]=>K (.int .i64 (cntB c s)) H
  |_=>none
 else none
def gInvoke (P:Program) (sf:GSelf β) (H:GH) (f:FuncId) (args:List TV) (K:TV→GH→Option β):Option β:=
 match P.funcs[f]? with
 |some fn=>match fn.body with
  |none=>gExtern H fn args K
  |some _=>sf.call f args H K
 |none=>none
def foldInts (f:Int→Int→Int):IntKind→Int→List TV→Option TV
 |k,n,[]=>some (.int k n)
 |k,n,.int k' m::r=>if k=k' then foldInts f k (f n m) r else none
 |_,_,_=>none
def gMaxMin (H:GH) (f:Int→Int→Int) (args:List TV) (K:TV→GH→Option β):Option β:=
 match args with
 | .int k n::r=>match foldInts f k n r with
  |some v=>K v H
  |none=>none
 |_=>none
def gSliceData (cm:Cm β) (H:GH) (x:TV) (K:TV→GH→Option β):Option β:=
 match x with
 | .raw (.slice none 0 0)=>K (.raw (.pointer none)) H
 | .all id=>match H.get id with
  |some (.arr _ _ xs _ _ em)=>match em with
   | .ex=>cm.sel xs.isEmpty (K (.raw (.pointer none)) H) (K (.elm id 0 0) H)
   |_=>cm.need (!xs.isEmpty) (K (.elm id 0 0) H)
  |_=>none
 |_=>none
def gUString (cm:Cm β) (P:Program) (H:GH) (argTypes:Array TypeId) (p n:TV) (K:TV→GH→Option β):Option β:=
 match p,n with
 | .raw (.pointer none),.int .i64 n=>cm.need (n==0) (K (.str []) H)
 | .elm id 0 0,.int .i64 n=>match H.get id,argTypes[0]? with
  |some (.arr et e xs _ false em),some pt=>match Sh.same e .byte with
   |some ⟨h⟩=>bif Nat.beq (P.cellsOf et) 1 &&isPtrTo P pt et then
     cm.need (ile 0 n &&ile n xs.length &&ile n roomy) (K (.str ((castL h xs:List UInt8).take n.toNat)) (H.put id (.arr et e xs false false em))) else none
   |none=>none
  |_,_=>none
 |_,_=>none
def gAppendN (cm:Cm β) (P:Program) (sh:ShT) (H:GH) (argTypes:Array TypeId) (s x:TV) (K:TV→GH→Option β):Option β:=
 match s,x with
 | .all id,.all id2=>match H.get id,H.get id2 with
  |some (.nest et e no net ne xs em none),some (.nest _ e2 no2 net2 ne2 ys _ none)=>
   match Sh.same e e2,Sh.same ne ne2 with
   |some ⟨hh⟩,some _=>match argTypes[0]?,argTypes[1]? with
    |some t,some xt=>
     if isInt P xt then none else
     match elemSize P t with
     |some (e',i)=>match zeroOf P e' with
      |some z=>bif Nat.ble 1 i.size &&Nat.beq z.cells.size i.size &&Nat.beq e2.sz i.size &&Nat.beq no no2 &&Nat.beq net net2 &&Nat.beq et e' && !ys.isEmpty &&ys.all (fun y=>(nestGet e2 no2 ne2 y).isEmpty) && !Nat.beq id id2 then
        cm.need (Nat.ble ((xs.length+ys.length)*(i.bytes+1)) roomy) (K (.all H.n) (((H.del id).del id2).new (.nest et e2 no net ne2 (castL hh xs++ys) em none)))
       else none
      |none=>none
     |none=>none
    |_,_=>none
   |_,_=>none
  |_,_=>gAppend cm P sh H argTypes s x K
 |_,_=>gAppend cm P sh H argTypes s x K
def gBuiltin (cm:Cm β) (P:Program) (sh:ShT) (H:GH) (b:Builtin) (argTypes:Array TypeId) (args:List TV) (K:TV→GH→Option β):Option β:=
 match b,args with
 | .append,[s,x]=>gAppendN cm P sh H argTypes s x K
 | .len,[x]=>match argTypes[0]? with
  |some t=>gLenN P H t x K
  |none=>none
 | .max,args=>gMaxMin H (fun x y=>bif ilt x y then y else x) args K
 | .min,args=>gMaxMin H (fun x y=>bif ilt y x then y else x) args K
 | .unsafeSliceData,[x]=>gSliceData cm H x K
 | .unsafeString,[p,n]=>bif argTypes[0]?.isSome then gUString cm P H argTypes p n K else none
 |_,_=>none
def gCallOp (cm:Cm β) (P:Program) (sh:ShT) (sf:GSelf β) (ρ:Operand→TV) (H:GH) (c:Call) (K:TV→GH→Option β):Option β:=
 match c.callee with
 | .builtin b=>gBuiltin cm P sh H b c.argTypes (c.args.toList.map ρ) K
 | .value f=>match ρ f with
  | .yld l=>gYield sf l (c.args.toList.map ρ) H K
  | .fn f first captured=>gInvoke P sf H f (first++c.args.toList.map ρ++captured) K
  |_=>none
 | .invoke _ _=>none
def sameOpd:Operand→Operand→Bool
 | .tmp a,.tmp b=>Nat.beq a b
 |_,_=>false
def isC:Operand→Bool
 | .const _=>true
 |_=>false
def nilIf (P:Program) (op:BinOp) (t:TypeId) (x y:Operand) (a b:TV):Option Bool:=
 match P.underlying t,a,b with
 |some (.interface _),.raw .nilIface,.raw .nilIface=>bif isC x ||isC y then match op with
   | .eql=>some true
   | .neq=>some false
   |_=>none
  else none
 |_,_,_=>none
def gOp (cm:Cm β) (P:Program) (sh:ShT) (sf:GSelf β) (ρ:Operand→TV) (H:GH) (o:Oper) (K:TV→GH→Option β):Option β:=
 match o.op with
 | .move x | .assign x=>K (ρ x) H
 | .pick c a b=>gPick H (ρ c) (ρ a) (ρ b) K
 | .alloc e=>gAlloc P H e K
 | .box e x=>gBox H e (ρ x) K
 | .build t parts=>gBuild P H t (parts.toList.map fun p=>(p.1,ρ p.2)) K
 | .buildSlice t len parts=>gBuildSliceN P sh H t len (parts.toList.map fun p=>(p.1,ρ p.2)) K
 | .load t a=>gLoadN cm P sh H t (ρ a) K
 | .store t a x=>gStoreN cm P H t (ρ a) (ρ x) K
 | .nilCheck x=>gNil H (ρ x) K
 | .binOp op t x y _=>match nilIf P op t x y (ρ x) (ρ y) with
  |some b=>K (.bool b) H
  |none=>gBin cm P H op t (ρ x) (ρ y) K
 | .unOp op _ x=>gUn H op (ρ x) K
 | .convert src dst x=>gConvert P H src dst (ρ x) K
 | .makeFunc (.func f) first captured=>K (.fn f (first.toList.map ρ) (captured.toList.map ρ)) H
 | .makeSlice t l c=>gMakeSliceN cm P sh H t (sameOpd l c) (ρ l) (ρ c) K
 | .slice t x lo hi mx=>gSlice cm P H t (ρ x) (lo.map ρ) (hi.map ρ) (mx.map ρ) K
 | .fieldAddr s x f=>gFieldAddr P H s (ρ x) f K
 | .field t x f=>gField P H t (ρ x) f K
 | .indexAddr t x ix=>gIndexAddrN cm P sh H t (ρ x) (ixT (ρ ix)) K
 | .index t x ix=>gIndex cm P H t (ρ x) (ixT (ρ ix)) K
 | .range t x=>gRange P H t (ρ x) K
 | .makeMap t n=>gMakeMapN P sh H t (n.map ρ) K
 | .lookup t x k ok=>gLookupN P sh H t (ρ x) (ρ k) ok K
 | .mapUpdate t m k x=>gMapUpdN cm P H t (ρ m) (ρ k) (ρ x) K
 | .insert t m k x=>gMapUpdN cm P H t (ρ m) (ρ k) (ρ x) K
 | .next it true=>gNext cm H (ρ it) K
 | .extract tp i=>gExtract H (ρ tp) i K
 | .call c=>gCallOp cm P sh sf ρ H c K
 |_=>none
def gGuard (cm:Cm β) (fi:FI) (ops:Array Oper) (o:Oper) (E:GE) (run skip:GE→Option β):Option β:=
 match o.guard with
 |none=>run E
 |some (j,want)=>match (ops[j]?).bind (·.dst) with
  |some d=>match lkGE fi E d with
   | .bool b=>cm.sel b (bif want then run (putGE fi d (.bool true) E) else skip (putGE fi d (.bool true) E)) (bif want then skip (putGE fi d (.bool false) E) else run (putGE fi d (.bool false) E))
   | .raw v=>match v with
    | .bool _ | .chan _=>none
    |_=>skip E
   |_=>none
  |none=>none
def gOps (cm:Cm β) (P:Program) (sh:ShT) (sf:GSelf β) (fi:FI) (ops:Array Oper):List Oper→GE→GH→(GE→GH→Option β)→Option β
 | [],E,H,K=>K E H
 |o::rest,E,H,K=>
  gGuard cm fi ops o E (fun E=>gOp cm P sh sf (opdG fi E) H o fun v H=>gOps cm P sh sf fi ops rest (putGT fi E o.dst v) H K)
   (fun E=>gOps cm P sh sf fi ops rest (putGT fi E o.dst (.raw Go.undef)) H K)
def bytesT:List TV→Option (List UInt8)
 | []=>some []
 | .byte c::r=>match bytesT r with
  |some l=>some (c::l)
  |none=>none
 |_=>none
def pairB (P:Program) (fi:FI) (E:GE) (o o2:Oper):Option (Tmp×Tmp×List UInt8):=
 match o.op,o2.op,o.dst,o2.dst,o.guard,o2.guard with
 | .buildSlice t len parts,.convert src dst (.tmp d'),some d,some d2,none,none=>
  bif Nat.beq d d' &&Nat.beq src dst &&Nat.beq src t &&Nat.blt d fi.nt then
   match P.underlying src,elemSize P t with
   |some (.slice e0),some (e,i)=>match P.underlying e0,zeroOf P e with
    |some (.int .u8),some z=>
     bif Nat.ble (len*(i.size+1)) (2^24) &&(parts.toList.map fun p=>(p.1,opdG fi E p.2)).all (fun p=>p.2.ok) &&Nat.beq z.cells.size i.size &&z.cells.toList.all byteOK &&Nat.beq i.size 1 then
      match fillG (fun j=>some (j*i.size,i.size)) (repG (z.cells.toList.map conv1) len) (parts.toList.map fun p=>(p.1,opdG fi E p.2)) with
      |some cells=>match bytesT cells with
       |some bs=>bif Nat.beq bs.length len then some (d,d2,bs) else none
       |none=>none
      |none=>none
     else none
    |_,_=>none
   |_,_=>none
  else none
 |_,_,_,_,_,_=>none
def gOpsQ (cm:Cm β) (P:Program) (sh:ShT) (sf:GSelf β) (fi:FI) (ops:Array Oper):List Oper→GE→GH→(GE→GH→Option β)→Option β
 | [],E,H,K=>K E H
 | [o],E,H,K=>
  gGuard cm fi ops o E (fun E=>gOp cm P sh sf (opdG fi E) H o fun v H=>K (putGT fi E o.dst v) H)
   (fun E=>K (putGT fi E o.dst (.raw Go.undef)) H)
 |o::o2::rest,E,H,K=>match pairB P fi E o o2 with
  |some (d,d2,bs)=>gOpsQ cm P sh sf fi ops rest (putGT fi (putGT fi E (some d) (.lst .byte bs (some false) false)) (some d2) (.lst .byte bs (some false) false)) H K
  |none=>gGuard cm fi ops o E (fun E=>gOp cm P sh sf (opdG fi E) H o fun v H=>gOpsQ cm P sh sf fi ops (o2::rest) (putGT fi E o.dst v) H K)
   (fun E=>gOpsQ cm P sh sf fi ops (o2::rest) (putGT fi E o.dst (.raw Go.undef)) H K)
def plainT:TV→Bool
 | .int _ _ | .byte _ | .str _ | .bool _=>true
 |_=>false
def plainE:TV→Bool
 | .agg _=>true
 |t=>plainT t
def touched (ρ:Operand→TV) (o:Oper):Option (List Nat×Bool):=
 match o.op with
 | .load _ a=>match ρ a with
  | .ptr id _=>some ([id],false)
  | .elm id _ _=>some ([id],false)
  | .pel _=>some ([],true)
  |_=>none
 | .binOp _ _ x y _=>bif plainE (ρ x) &&plainE (ρ y) then some ([],false) else none
 | .lookup _ x _ _=>match ρ x with
  | .mp id=>some ([id],false)
  | .raw (.map none)=>some ([],false)
  |_=>none
 | .call c=>match c.callee with
  | .builtin .len=>match c.args.toList with
   | [x]=>match ρ x with
    | .str _ | .lst _ _ _ _ | .all _ | .own _ _ _=>some ([],false)
    | .raw (.slice none 0 0)=>some ([],false)
    | .mp id=>some ([id],false)
    |_=>none
   |_=>none
  | .builtin .max=>some ([],false)
  | .builtin .min=>some ([],false)
  | .builtin .unsafeSliceData=>some ([],false)
  |_=>none
 | .convert _ _ x=>match ρ x with
  | .all id=>some ([id],false)
  | .own id _ _=>some ([id],false)
  | .int _ _ | .byte _ | .str _=>some ([],false)
  | .lst _ _ _ _=>some ([],true)
  |_=>none
 |_=>none
def same1G:TV→Bool
 | .int _ _ | .byte _ | .bool _ | .str _ | .ptr _ _ | .elm _ _ _ | .pel _ | .lst _ _ _ _ | .all _ | .own _ _ _ | .mp _=>true
 | .raw v=>match v with
  | .bool _ | .int _ _ | .string _ | .pointer _ | .slice _ _ _ | .map _ | .nilFunc | .nilIface=>true
  |_=>false
 |_=>false
def sameG:TV→Bool
 | .agg cs=>cs.all same1G
 | .tup cs=>cs.all same1G
 | .fn _ a c=>a.all same1G &&c.all same1G
 |t=>same1G t
def oldO (young:List Nat):Operand→Bool
 | .tmp t=> !memN young t
 |_=>false
def oldStep (ρ:Operand→TV) (young:List Nat) (o:Oper):Bool:=
 match o.op with
 | .move x | .assign x=>oldO young x
 | .indexAddr _ x ix=>oldO young x &&(match ρ x,ρ ix with
  | .lst _ _ _ _,.int _ _=>true
  |_,_=>false)
 | .fieldAddr _ x _=>oldO young x &&(match ρ x with
  | .pel _=>true
  |_=>false)
 |_=>false
def oldLoad (ρ:Operand→TV) (young:List Nat) (o:Oper):Bool:=
 match o.op with
 | .load _ a=>oldO young a &&(match ρ a with
  | .pel _=>true
  |_=>false)
 |_=>false
def youngD (b:Bool) (d:Option Tmp) (young:List Nat):List Nat:=
 bif b then young else match d with
  |some d=>d::young
  |none=>young
structure GRd where
 i:Nat
 ids:List Nat
 st:List (Option Nat)
structure GDS where
 E:GE
 H:GH
 snaps:List (Nat×Option GH)
 reads:List GRd
 young:List Nat
 pn:List Nat
 po:List (Nat×Nat)
def sameSt:List (Option Nat)→List (Option Nat)→Bool
 | [],[]=>true
 |some a::r,some b::r'=>Nat.beq a b &&sameSt r r'
 |_,_=>false
def okSnapsG (H:GH) (ids:List Nat) (p:Bool) (m:Nat):List (Nat×Option GH)→Bool
 | []=>true
 |(c,q)::rest=>(m.testBit c ||(match q with
  |some Hc=> !p &&sameSt (ids.map Hc.stamp) (ids.map H.stamp)
  |none=>false)) &&okSnapsG H ids p m rest
def okReadsG (H:GH) (m:Nat):List GRd→Bool
 | []=>true
 |r::rest=>(m.testBit r.i ||sameSt r.st (r.ids.map H.stamp)) &&okReadsG H m rest
def chainedG (m:Nat):List (Nat×Option GH)→Bool
 | []=>true
 |(c,_)::rest=>m.testBit c &&chainedG m rest
def isMapO:Option GObj→Bool
 |some (.map ..)=>true
 |_=>false
def lateIds (po:List (Nat×Nat)):List Nat→List Nat
 | []=> []
 |j::r=>match po.find? (fun p=>Nat.beq p.1 j) with
  |some p=>p.2::lateIds po r
  |none=>lateIds po r
def lateOK (H:GH) (po:List (Nat×Nat)) (js:List Nat):Bool:=js.all fun j=>match po.find? (fun p=>Nat.beq p.1 j) with
 |some p=>isMapO (H.get p.2)
 |none=>false
def lateSt (ρ:Operand→TV) (H:GH) (po:List (Nat×Nat)) (js:List Nat) (o:Oper):Bool:=
 match o.op with
 | .store _ a _=>match ρ a with
  | .ptr id _=>match H.get id with
   |some (.cells _ _ true)=>lateOK H po js
   |_=>false
  |_=>false
 |_=>false
def dropL:List Nat→GH→GH
 | [],H=>H
 |k::r,H=>dropL r (H.del k)
def gDrawStep (cm:Cm β) (P:Program) (sh:ShT) (sf:GSelf β) (fi:FI) (ops:Array Oper) (i:Nat) (o:Oper) (m:Nat) (s:GDS) (K:GDS→Option β):Option β:=
 gGuard cm fi ops o s.E (fun E=>
  match kindOf P o with
  | .pure=>bif oldStep (opdG fi E) s.young o then gOp cm P sh sf (opdG fi E) s.H o fun v H=>K { s with E:=putGT fi E o.dst v,H:=H }
    else gOp cm P sh sf (opdG fi E) s.H o fun v H=>K { s with E:=putGT fi E o.dst v,H:=H,young:=youngD (plainT v) o.dst s.young }
  | .read=>bif oldLoad (opdG fi E) s.young o then
     gOp cm P sh sf (opdG fi E) s.H o fun v H=>bif sameG v then K { s with E:=putGT fi E o.dst v,H:=H,reads:= ⟨i,[],[]⟩::s.reads } else none
    else match touched (opdG fi E) o with
   |some (ids,p)=>bif (s.pn.isEmpty ||(ids.isEmpty && !p)) &&okSnapsG s.H ids p m s.snaps then
     gOp cm P sh sf (opdG fi E) s.H o fun v H=>bif sameG v then K { s with E:=putGT fi E o.dst v,H:=H,reads:= ⟨i,ids,ids.map s.H.stamp⟩::s.reads,young:=youngD (plainT v) o.dst s.young } else none
    else none
   |none=>none
  | .fresh=>match o.op with
   | .buildSlice _ _ _=>gOp cm P sh sf (opdG fi E) s.H o fun v H=>K { s with E:=putGT fi E o.dst v,H:=H,young:=youngD (plainT v) o.dst s.young,pn:=i::s.pn }
   | .alloc _=>gOp cm P sh sf (opdG fi E) s.H o fun v H=>K { s with E:=putGT fi E o.dst v,H:=H,young:=youngD (plainT v) o.dst s.young,pn:=i::s.pn }
   | .makeSlice _ _ _=>gOp cm P sh sf (opdG fi E) s.H o fun v H=>K { s with E:=putGT fi E o.dst v,H:=H,young:=youngD (plainT v) o.dst s.young,pn:=i::s.pn }
   | .makeMap _ _=>gOp cm P sh sf (opdG fi E) s.H o fun v H=>K { s with E:=putGT fi E o.dst v,H:=H,young:=youngD (plainT v) o.dst s.young,pn:=i::s.pn,po:=(i,s.H.n)::s.po }
   |_=>none
  | .chain=>bif chainedG m s.snaps then
    bif s.pn.all (fun j=>m.testBit j) then
    gOp cm P sh sf (opdG fi E) s.H o fun v H=>
     bif okReadsG H m s.reads then K { E:=putGT fi E o.dst v,H:=H,snaps:=(i,bif s.pn.isEmpty then some s.H else none)::s.snaps,reads:=s.reads,young:=youngD (plainT v) o.dst s.young,pn:= [],po:=s.po } else none
    else bif lateSt (opdG fi E) s.H s.po (s.pn.filter fun j=> !m.testBit j) o then
    gOp cm P sh sf (opdG fi E) s.H o fun v H=>
     bif lateOK H s.po (s.pn.filter fun j=> !m.testBit j) &&okReadsG (dropL (lateIds s.po (s.pn.filter fun j=> !m.testBit j)) H) m s.reads then K { E:=putGT fi E o.dst v,H:=H,snaps:=(i,none)::s.snaps,reads:=s.reads,young:=youngD (plainT v) o.dst s.young,pn:=s.pn.filter fun j=> !m.testBit j,po:=s.po } else none
    else none
   else none)
  (fun E=>K { s with E:=putGT fi E o.dst (.raw Go.undef) })
def gDrawOps (cm:Cm β) (P:Program) (sh:ShT) (sf:GSelf β) (fi:FI) (ops:Array Oper):List Oper→Nat→List Nat→GDS→(GDS→Option β)→Option β
 | [],_,_,s,K=>K s
 |_::_,_,[],_,_=>none
 |o::rest,i,m::ms,s,K=>gDrawStep cm P sh sf fi ops i o m s fun s=>gDrawOps cm P sh sf fi ops rest (i+1) ms s K
def gDraw (cm:Cm β) (P:Program) (sh:ShT) (sf:GSelf β) (fi:FI) (ops:Array Oper) (E:GE) (H:GH) (K:GE→GH→Option β):Option β:=
 bif okStatic ops (predsOf ops.toList []) then
  gDrawOps cm P sh sf fi ops ops.toList 0 (predsOf ops.toList []) ⟨E,H,[],[],[],[],[]⟩ fun s=>K s.E s.H
 else none
def firstR:Code→Nat
 | .region id _ _=>id
 | .seq a _=>firstR a
 | .block _ c=>firstR c
 | .scope c=>firstR c
 | .loop c=>firstR c
 |_=>0
def quiet (P:Program) (sh:ShT) (o:Oper):Bool:=
 match o.op with
 | .move _ | .assign _ | .pick .. | .binOp .. | .unOp .. | .index .. | .field .. | .fieldAddr .. | .indexAddr .. | .extract .. =>true
 | .load t _=>sh.nst.isEmpty || !isSl P t
 | .convert src _ _=>match P.underlying src with
  |some (.int _)=>true
  |_=>false
 | .call c=>match c.callee with
  | .builtin .len=>true
  |_=>false
 |_=>false
def locD (fi:FI):List Oper→List Tmp
 | []=> []
 |o::r=>match o.dst with
  |some d=>match cls fi d with
   | .loc=>d::locD fi r
   |_=>locD fi r
  |none=>locD fi r
def joinR (P:Program) (sh:ShT) (fi:FI) (ops:Array Oper):Option Tmp:=
 bif ops.toList.any (fun o=>o.guard.isSome) &&ops.toList.all (quiet P sh) then match locD fi ops.toList with
  | [d]=>some d
  | []=>match ops.toList.getLast?.bind (·.dst) with
   |some d=>match cls fi d with
    | .tmp=>some d
    |_=>none
   |none=>none
  |_=>none
 else none
def boolAt:TV→Option Bool
 | .bool b=>some b
 |_=>none
def knowB (fi:FI) (c:Operand) (b:Bool) (E:GE):GE:=match c with
 | .tmp t=>putGE fi t (.bool b) E
 |_=>E
def noSelf:GSelf β:= ⟨fun _ _ _ _ _ _ _=>none,fun _ _ _ _=>none,fun _ _ _ d _ _ _=>d⟩
def gC (cx:Cx β) (P:Program) (sh:ShT) (sf:GSelf β) (fid:Nat) (fi:FI) (ro:Option Nat):Code→GE→GH→(X→GE→GH→Option β)→Option β
 | .skip,E,H,K=>K .normal E H
 | .region _ ops false,E,H,K=>match joinR P sh fi ops with
  |some d=>cx.jn (fun cm=>gOps cm P sh noSelf fi ops ops.toList E.reset H fun E _=>boolAt (lkGE fi E d)) fun b=>K .normal (putGE fi d (.bool b) E.reset) H
  |none=>gOpsQ cx.cm P sh sf fi ops ops.toList E.reset H fun E H=>K .normal E H
 | .region _ ops true,E,H,K=>gDraw cx.cm P sh sf fi ops E.reset H fun E H=>K .normal E H
 | .seq a b,E,H,K=>gC cx P sh sf fid fi ro a E H fun x E H=>match x with
  | .normal=>gC cx P sh sf fid fi ro b E H K
  |x=>K x E H
 | .cond c a b,E,H,K=>match opdG fi E c with
  | .bool t=>cx.cm.sel t (gC cx P sh sf fid fi ro a (knowB fi c true E) H K) (gC cx P sh sf fid fi ro b (knowB fi c false E) H K)
  |_=>none
 | .block id c,E,H,K=>gC cx P sh sf fid fi ro c E H fun x E H=>match x with
  | .exit j=>bif Nat.beq j id then K .normal E H else K (.exit j) E H
  |x=>K x E H
 | .loop c,E,H,K=>sf.loop fid (firstR c) ro (gC cx P sh sf fid fi ro c E H fun x E H=>match x with
   | .normal=>sf.code fid fi ro (.loop c) E H K
   |x=>K x E H) E H K
 | .rangeFunc f ps asg body,E,H,K=>
  bif (match ro with
   |none=>true
   |some l=>match H.get l with
    |some (.loop ..)=>true
    |_=>false) then
   match opdG fi E f with
   | .fn g first captured=>
    sf.call g (first++ [TV.yld H.n]++captured) (H.new (.loop fid .ready none fi E ps.toList asg body)) fun _ H1=>
     match H1.get H.n with
     |some (.loop fid st pd fi2 E2 ps asg body)=>
      bif st==LoopState.busy then none else
      match pd with
      |none=>K .normal E (H1.put H.n (.loop fid .exhausted pd fi2 E2 ps asg body))
      |some .ret=>K .ret E (H1.put H.n (.loop fid .exhausted pd fi2 E2 ps asg body))
      |some (.exit id)=>K (.exit id) E (H1.put H.n (.loop fid .exhausted pd fi2 E2 ps asg body))
      |_=>none
     |_=>none
   |_=>none
  else none
 | .exit id,E,H,K=>K (.exit id) E H
 | .scope c,E,H,K=>gC cx P sh sf fid fi ro c E H K
 | .label _,E,H,K=>K .normal E H
 | .goto _,_,_,_=>none
 | .ret,E,H,K=>K .ret E H
 | .refuse _,_,_,_=>none
def resG (P:Program) (fi:FI) (E:GE) (H:GH):ResultVar→Option TV
 | .tmp t=>some (lkGE fi E t)
 | .cell a t=>match lkGE fi E a with
  | .ptr id off=>match H.get id with
   |some (.cells _ cs _)=>bif Nat.ble off cs.length then atCells P t (cs.drop off) else none
   |_=>none
  |_=>none
def ressG (P:Program) (fi:FI) (E:GE) (H:GH):List ResultVar→Option (List TV)
 | []=>some []
 |r::rs=>match resG P fi E H r,ressG P fi E H rs with
  |some v,some vs=>some (v::vs)
  |_,_=>none
def argsG:Nat→List TV→GAL
 |_,[]=> .e
 |i,v::r=> .c i v (argsG (i+1) r)
def gCall (cx:Cx β) (P:Program) (sh:ShT) (hint:Hint) (sf:GSelf β) (f:FuncId) (args:List TV) (H:GH) (K:TV→GH→Option β):Option β:=
 match P.funcs[f]? with
 |some fn=>match fn.body with
  |some c=>bif Nat.ble args.length fn.ntmps then
    gC cx P sh sf f (fiOf hint f fn) none c ⟨argsG 0 args,.e⟩ H fun x E H=>match x with
     | .normal | .ret=>match ressG P (fiOf hint f fn) E H fn.results.toList with
      |some [v]=>K v H
      |some vs=>K (.tup vs) H
      |none=>none
     |_=>none
   else none
  |none=>none
 |none=>none
structure Hooks (β:Type) where
 call:FuncId→Option (Nat→List TV→GH→(TV→GH→Option β)→Option β)
 loop:Nat→Nat→Option Nat→Option (Nat→GE→GH→(X→GE→GH→Option β)→Option (Option β))
def specKey:Nat:=1048576
def findS:List Nat→FuncId→Option (Nat×Nat)
 |k::f'::g::r,f=>bif Nat.beq f f' then some (k,g) else findS r f
 |_,_=>none
def pow10s:List Int:= [1,10,100,1000,10000,100000,1000000,10000000,100000000,1000000000,10000000000,100000000000,1000000000000,10000000000000,100000000000000,1000000000000000,10000000000000000,100000000000000000,1000000000000000000,10000000000000000000]
def in64 (n:Int):Bool:=ile (-9223372036854775808) n &&ile n 9223372036854775807
def TabV (I:IH) (g:Nat) (vs:List Value):Prop:=∃ cs et fz ex sd,I.get g=some (.cells cs et fz ex sd)∧ex=true∧cs.length=vs.length∧∀ (i:Nat) (v:Value),vs[i]? =some v→cs[i]? =some v
def trimOK (cs:List UInt8):Bool:=Nat.ble 2 cs.length &&Nat.ble cs.length 4294967280 &&cs.all fun c=>Nat.blt c.toNat 128
def first8:List UInt8:=Go.Pinned.utf8FirstZ.map UInt8.ofNat
def acc8:List (UInt8×UInt8):= [(128,191),(160,191),(128,159),(144,191),(128,143),(0,0),(0,0),(0,0),(0,0),(0,0),(0,0),(0,0),(0,0),(0,0),(0,0),(0,0)]
def u8V (c:UInt8):Value:= .int .u8 c.toNat
open Classical in
def specV (k g:Nat) (args:List Value) (I:IH):Option Value:=
 match k,args with
 |0,[]=>some (.bool true)
 |1,[.int .i64 n]=>if in64 n=true∧g<glN∧TabV I g (pow10s.map fun z=> .int .u64 z) then some (.string (ba (Lib.itoa n))) else none
 |2,[.string s,.string cs]=>bif trimOK (bl cs) then some (.string (ba (Lib.trimLeftS (bl s) (bl cs)))) else none
 |3,[.string s]=>if Nat.ble (bl s).length 9223372036854775807=true∧(g / 1000<glN∧g%1000<glN)∧TabV I (g / 1000) (first8.map u8V)∧TabV I (g%1000) (acc8.flatMap fun p=> [u8V p.1,u8V p.2]) then some (.bool (Lib.validD (bl s))) else none
 |_,_=>none
def specR (k g:Nat) (args:List Value) (I:IH):Option (Iv.End×IH):=(specV k g args I).map fun v=>(.returned v,I)
def gspec (hint:Hint):Iv.Spec:=fun f args I=>match findS (hint specKey) f with
 |some (k,g)=>specR k g args I
 |none=>none
def tabT (sh:ShT) (g:Nat):Bool:=
 match sh.tb g with
 |some ⟨.int .u64,xs⟩=>(xs:List Int)==pow10s
 |_=>false
def tabU (sh:ShT) (g1 g2:Nat):Bool:=
 (match sh.tb g1 with
 |some ⟨.byte,xs⟩=>(xs:List UInt8)==first8
 |_=>false) &&(match sh.tb g2 with
 |some ⟨.cons .byte .byte,ys⟩=>(ys:List (UInt8×UInt8))==acc8
 |_=>false)
def specT (cm:Cm β) (sh:ShT) (k g:Nat) (args:List TV) (H:GH) (K:TV→GH→Option β):Option (Option β):=
 match k,args with
 |0,[]=>some (K (.bool true) H)
 |1,[.int .i64 n]=>some (bif Nat.blt g glN &&tabT sh g then cm.need (in64 n) (K (.str (Lib.itoa n)) H) else none)
 |2,[.str s,.str cs]=>bif trimOK cs then some (K (.str (Lib.trimLeftS s cs)) H) else none
 |3,[.str s]=>some (bif Nat.blt (g / 1000) glN &&(Nat.blt (g%1000) glN &&tabU sh (g / 1000) (g%1000)) then cm.need (Nat.ble s.length 9223372036854775807) (K (.bool (Lib.validD s)) H) else none)
 |_,_=>some none
def stopF:Nat:=1048577
def stopL:Nat:=1048578
def memP:List Nat→Nat→Nat→Bool
 |a::b::r,x,y=>bif Nat.beq a x &&Nat.beq b y then true else memP r x y
 |_,_,_=>false
def gv (cx:Cx β) (P:Program) (sh:ShT) (hint:Hint) (hk:Hooks β):Nat→GSelf β
 |0=> ⟨fun _ _ _ _ _ _ _=>none,fun _ _ _ _=>none,fun fid r ro d E H K=>bif memP (hint stopL) fid r then none else match hk.loop fid r ro with
   |some f=>match f 0 E H K with
    |some r=>r
    |none=>d
   |none=>d⟩
 |n+1=> ⟨gC cx P sh (gv cx P sh hint hk n),fun f args H K=>match findS (hint specKey) f with
   |some (k,g)=>match specT cx.cm sh k g args H K with
    |some r=>r
    |none=>match hk.call f with
     |some h=>h n args H K
     |none=>gCall cx P sh hint (gv cx P sh hint hk n) f args H K
   |none=>bif memN (hint stopF) f then none else match hk.call f with
   |some h=>h n args H K
   |none=>gCall cx P sh hint (gv cx P sh hint hk n) f args H K,
  fun fid r ro d E H K=>bif memP (hint stopL) fid r then none else match hk.loop fid r ro with
   |some f=>match f (n+1) E H K with
    |some r=>r
    |none=>d
   |none=>d⟩
end
end Go.Gv
