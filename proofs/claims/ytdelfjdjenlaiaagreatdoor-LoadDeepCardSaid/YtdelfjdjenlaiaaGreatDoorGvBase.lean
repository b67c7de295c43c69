/- The pure evaluator (the first part): shapes, plain values, a heap of few named objects, operations. Lists that nobody writes any more are plain Lean lists. -/
import Derived.Test.YtdelfjdjenlaiaaGreatDoorIvEval
set_option linter.unusedSimpArgs false
set_option linter.unusedVariables false
namespace Go.Gv
open Go Go.Iv
noncomputable section
inductive Sh where
 |int (k:IntKind)
 |byte
 |bool
 |str
 |cons (a b:Sh)
 |aJ (e:Sh)
abbrev Sh.ty:Sh->Type
 | .int _=>Int
 | .byte=>UInt8
 | .bool=>Bool
 | .str=>List UInt8
 | .cons a b=>a.ty×b.ty
 | .aJ e=>List e.ty
def Sh.sz:Sh->Nat
 | .cons a b=>a.sz+b.sz
 |_=>1
def Sh.same:(a b:Sh)->Option (PLift (a=b))
 | .int k,.int k'=>if h:k=k' then some ⟨by rw [h]⟩ else none
 | .byte,.byte=>some ⟨rfl⟩
 | .bool,.bool=>some ⟨rfl⟩
 | .str,.str=>some ⟨rfl⟩
 | .cons a b,.cons a' b'=>match Sh.same a a',Sh.same b b' with
  |some ⟨h⟩,some ⟨h'⟩=>some ⟨by rw [h,h']⟩
  |_,_=>none
 | .aJ e,.aJ e'=>match Sh.same e e' with
  |some ⟨h⟩=>some ⟨by rw [h]⟩
  |none=>none
 |_,_=>none
def fG {a b:Sh} (h:a=b) (xs:List a.ty):List b.ty:=h▸xs
inductive TV where
 |int (k:IntKind) (n:Int)
 |byte (c:UInt8)
 |bool (b:Bool)
 |str (s:List UInt8)
 |agg (cs:List TV)
 |jg (vs:List TV)
 |aC (e:Sh) (xs:List e.ty) (nl:Option Bool) (cl:Bool)
 |all (id:Nat)
 |own (id off len:Nat)
 |ptr (id off:Nat)
 |oC (cs:List TV)
 |jd (id i off:Nat)
 |fn (f:FuncId) (first captured:List TV)
 |mX (l:Nat)
 |mp (id:Nat)
 |raw (v:Value)
 |undef
 |H5 (v:Value)
instance:Inhabited TV:=⟨.undef⟩
def TV.cells:TV->List TV
 | .agg cs=>cs
 |v=> [v]
def TV.one:TV->Bool
 | .agg _ | .jg _ | .undef | .H5 _=>false
 | .raw v=>Iv.one v
 |_=>true
def Wy:TV:= .raw (.slice none 0 0)
def Sh.de:(s:Sh)->s.ty->List TV
 | .int k,n=> [.int k n]
 | .byte,c=> [.byte c]
 | .bool,b=> [.bool b]
 | .str,s=> [.str s]
 | .cons a b,x=>a.de x.1++b.de x.2
 | .aJ e,xs=> [.aC e xs none false]
def ofInt (k:IntKind):List TV->Option (Int×List TV)
 | .int k' n::r=>if k=k' then some (n,r) else none
 |_=>none
def BU:List TV->Option (UInt8×List TV)
 | .byte c::r=>some (c,r)
 |_=>none
def ofBool:List TV->Option (Bool×List TV)
 | .bool b::r=>some (b,r)
 |_=>none
def ofStr:List TV->Option (List UInt8×List TV)
 | .str s::r=>some (s,r)
 |_=>none
def An (e:Sh):List TV->Option (List e.ty×List TV)
 | .aC e' xs _ _::r=>match Sh.same e' e with
  |some ⟨h⟩=>some (fG h xs,r)
  |none=>none
 | .raw (.slice none 0 0)::r=>some ([],r)
 |_=>none
def Sh.of:(s:Sh)->List TV->Option (s.ty×List TV)
 | .int k,l=>ofInt k l
 | .byte,l=>BU l
 | .bool,l=>ofBool l
 | .str,l=>ofStr l
 | .cons a b,l=>match a.of l with
  |some (x,l)=>match b.of l with
   |some (y,l)=>some ((x,y),l)
   |none=>none
  |none=>none
 | .aJ e,l=>An e l
def Sh.jj (s:Sh) (l:List TV):Option s.ty:=
 match s.of l with
 |some (x,[])=>some x
 |_=>none
def zV:Sh->Bool
 | .cons a b=>zV a &&zV b
 | .aJ _=>false
 |_=>true
def HW:Sh->Nat->Sh->Bool
 | .cons a b,no,ne=>bif Nat.blt no a.sz then HW a no ne &&zV b else zV a &&HW b (no - a.sz) ne
 | .aJ e,0,ne=>(Sh.same e ne).isSome
 |_,_,_=>false
def aY:(e:Sh)->Nat->(ne:Sh)->e.ty->List ne.ty
 | .cons a b,no,ne,x=>@Bool.rec (fun _=>List ne.ty) (aY b (no - a.sz) ne x.2) (aY a no ne x.1) (Nat.blt no a.sz)
 | .aJ e,_,ne,x=>match Sh.same e ne with
  |some ⟨h⟩=>fG h x
  |none=> []
 |_,_,_,_=> []
def du:(e:Sh)->Nat->(ne:Sh)->e.ty->List ne.ty->e.ty
 | .cons a b,no,ne,x,ys=>@Bool.rec (fun _=>a.ty×b.ty) (x.1,du b (no - a.sz) ne x.2 ys) (du a no ne x.1 ys,x.2) (Nat.blt no a.sz)
 | .aJ e,_,ne,x,ys=>match Sh.same ne e with
  |some ⟨h⟩=>fG h ys
  |none=>x
 |_,_,_,x,_=>x
def Sh.Ac:(s:Sh)->s.ty->s.ty->Bool
 | .int _,a,b=>((a:Int)==b)
 | .byte,a,b=>((a:UInt8)==b)
 | .bool,a,b=>((a:Bool)==b)
 | .str,a,b=>((a:List UInt8)==b)
 | .cons p q,a,b=>p.Ac a.1 b.1 &&q.Ac a.2 b.2
 | .aJ _,_,_=>false
def gY (k:Sh) {β:Type}:List (k.ty×β)->k.ty->Option β
 | [],_=>none
 |p::r,x=>bif k.Ac x p.1 then some p.2 else gY k r x
def nV (k:Sh) {β:Type} (l:List (k.ty×β)) (x:k.ty) (d:β):β:=(gY k l x).getD d
def FJ (k:Sh) {β:Type} (l:List (k.ty×β)) (x:k.ty):Bool:=(gY k l x).isSome
def iW (k:Sh) {β:Type}:List (k.ty×β)->k.ty->β->List (k.ty×β)
 | [],x,y=> [(x,y)]
 |p::r,x,y=>bif k.Ac x p.1 then (x,y)::r else p::iW k r x y
def ja:Value->TV
 | .int .u8 n=> .byte (UInt8.ofNat n.toNat)
 | .int k n=> .int k n
 | .bool b=> .bool b
 | .string s=> .str (bl s)
 |v=> .raw v
def fy:Value->Bool
 | .int .u8 (.ofNat n)=>Nat.ble n 255
 | .int .u8 _=>false
 |_=>true
def conv (v:Value):TV:=
 bif free v then match v with
  | .agg cs=>bif cs.toList.all fy then .agg (cs.toList.map ja) else .undef
  | .tuple _ | .iface _ _=> .undef
  |v=>bif fy v then ja v else .undef
 else .undef
inductive ID where
 |e
 |c (k:Nat) (v:TV) (r:ID)
structure GE where
 loc:ID
 tmp:ID
def eX:ID->Nat->TV
 | .e,_=> .undef
 | .c k v r,t=>bif Nat.beq k t then v else eX r t
def nk:ID->Nat->TV->ID
 | .e,d,v=> .c d v .e
 | .c k u r,d,v=>bif Nat.beq k d then .c d v r else .c k u (nk r d v)
def fx (fi:FI) (E:GE) (t:Nat):TV:=
 match cls fi t with
 | .out=> .undef
 | .loc=>eX E.loc t
 | .tmp=>eX E.tmp t
def dc (fi:FI) (d:Nat) (v:TV) (E:GE):GE:=
 match cls fi d with
 | .out=>E
 | .loc=>⟨nk E.loc d v,E.tmp⟩
 | .tmp=>⟨E.loc,.c d v E.tmp⟩
def GE.reset (E:GE):GE:=⟨E.loc,.e⟩
def cC (fi:FI) (E:GE) (dst:Option Tmp) (v:TV):GE:=
 match dst with
 |some d=>dc fi d v E
 |none=>E
inductive Em where
 |ex |any |no
 deriving DecidableEq
def Em.si:Em->Bool
 | .no=>false
 |_=>true
def Em.le:Em->Em->Bool
 | .ex,.ex=>true
 | .no,.no=>true
 |_,.any=>true
 |_,_=>false
instance:Coe Bool Em:=⟨fun b=>bif b then .ex else .no⟩
inductive bL where
 |cells (et:TypeId) (cs:List TV) (wr:Bool)
 |arr (et:TypeId) (e:Sh) (xs:List e.ty) (wr fz:Bool) (em:Em)
 |iter (s:List UInt8) (pos:Nat)
 |nest (et:TypeId) (e:Sh) (no:Nat) (net:TypeId) (ne:Sh) (xs:List e.ty) (em:Em) (ho:Option (Nat×Nat×e.ty))
 |map (kt:TypeId) (gk ge:Bool) (k e:Sh) (xs:List (k.ty×e.ty)) (em:Bool)
 |gT (kt:TypeId) (gk:Bool) (k:Sh) (net:TypeId) (ne:Sh) (xs:List (k.ty×List ne.ty)) (ho:Option (k.ty×Nat))
 |loop (bO:Nat) (st:LoopState) (pd:Option Code) (fi:FI) (E:GE) (ps:List Tmp) (dZ body:Code)
structure GH where
 t:Tr (Nat×bL)
 n:Nat
 ck:Nat
def GH.get (H:GH) (b:Nat):Option bL:=match H.t.lA b with
 |some (_,o)=>some o
 |none=>none
def GH.aT (H:GH) (b:Nat):Option Nat:=match H.t.lA b with
 |some (s,_)=>some s
 |none=>none
def GH.put (H:GH) (b:Nat) (o:bL):GH:=⟨Tr.qU (some (H.ck,o)) (Nat.succ b) H.t b,H.n,Nat.succ H.ck⟩
def GH.del (H:GH) (b:Nat):GH:=⟨Tr.qU none (Nat.succ b) H.t b,H.n,H.ck⟩
def GH.new (H:GH) (o:bL):GH:=⟨Tr.qU (some (H.ck,o)) (Nat.succ H.n) H.t H.n,Nat.succ H.n,Nat.succ H.ck⟩
variable {β:Type}
structure Cm (β:Type) where
 ep:Bool->Option β->Option β
 WN:Bool->Option β->Option β->Option β
 opt:{α:Type}->Option α->(α->Option β)->Option β
def dW:Cm β:=⟨fun b r=>bif b then r else none,fun b t e=>bif b then t else e,fun o k=>o.bind k⟩
structure Cx (β:Type) where
 cm:Cm β
 jn:{α:Type}->(Cm α->Option α)->(α->Option β)->Option β
def stx:Cx β:=⟨dW,fun f k=>(f dW).bind k⟩
structure Tb where
 e:Sh
 xs:List e.ty
structure cA where
 ty:TypeId->Option Sh
 tb:Nat->Option Tb
 gZ:List (TypeId×Nat×TypeId):= []
 ZW:List TypeId:= []
def AH:List (TypeId×Nat×TypeId)->TypeId->Option (Nat×TypeId)
 | [],_=>none
 |(e,x)::r,k=>bif Nat.beq e k then some x else AH r k
def Pd:List (Nat×Tb)->Nat->Option Tb
 | [],_=>none
 |(g,T)::r,k=>bif Nat.beq g k then some T else Pd r k
def ti (H:GH):TV->Option (TV×GH)
 | .all id=>match H.get id with
  |some (.arr et e xs wr fz em)=>some (.aC e xs none false,bif fz then H else H.put id (.arr et e xs wr true em))
  |some (.nest et e _ _ _ xs em none)=>some (.aC e xs none false,H.put id (.arr et e xs true true em))
  |_=>none
 | .own id off len=>match H.get id with
  |some (.arr et e xs wr fz em)=>some (.aC e ((xs.drop off).take len) none false,bif fz then H else H.put id (.arr et e xs wr true em))
  |_=>none
 | .aC e xs nl cl=>some (.aC e xs nl cl,H)
 | .int k n=>some (.int k n,H)
 | .byte c=>some (.byte c,H)
 | .bool b=>some (.bool b,H)
 | .str s=>some (.str s,H)
 | .raw (.slice none 0 0)=>some (Wy,H)
 |_=>none
def iF:List TV->GH->Option (List TV×GH)
 | [],H=>some ([],H)
 |v::r,H=>match ti H v with
  |some (v,H)=>match iF r H with
   |some (r,H)=>some (v::r,H)
   |none=>none
  |none=>none
def bZ (fi:FI) (E:GE):Operand->TV
 | .tmp t=>fx fi E t
 | .const v=>conv v
 | .global g=>bif Nat.ble (Nat.succ g) bU then .ptr g 0 else .undef
 | .func f=> .fn f [] []
def dY:List TV->Nat->List TV->List TV
 |cs,_,[]=>cs
 |cs,off,v::vs=>dY (cs.set off v) (off+1) vs
def gb (P:Program) (t:TypeId):Sh->Bool
 | .int k=>match P.underlying t with
  |some (.int k')=>k==k'
  |_=>false
 | .byte=>match P.underlying t with
  |some (.int .u8)=>true
  |_=>false
 | .bool=>match P.underlying t with
  |some .bool=>true
  |_=>false
 | .str=>match P.underlying t with
  |some .string=>true
  |_=>false
 |_=>false
def oP (P:Program):List Field->Nat->Sh->Bool
 | [f], i, s => f.name != "_" && Nat.beq f.offset i && gb P f.type s
 | f :: q :: r, i, .cons a b => f.name != "_" && Nat.beq f.offset i && gb P f.type a && oP P (q :: r) (i + 1) b
 |_,_,_=>false
def nL (P:Program) (kt:TypeId) (g:Bool) (k:Sh):Bool:=
 match P.underlying kt with
 |some (.struct fs)=>g && !P.stoodInHeld kt &&oP P fs.toList 0 k
 |_=> !g &&gb P kt k
def WV:TV->Bool
 | .agg _=>true
 |_=>false
def Rl (g:Bool) (k:Sh) (t:TV):Option k.ty:=bif (bif g then WV t else t.one) then k.jj t.cells else none
def UP (g:Bool) (s:Sh) (x:s.ty):TV:=bif g then .agg (s.de x) else (s.de x).headD .undef
def fF (P:Program) (t:TypeId) (cs:List TV):Option TV:=
 match eK P t with
 |some true=>match P.info? t with
  |some i=>bif Nat.ble i.size cs.length then some (.agg (cs.take i.size)) else none
  |none=>none
 |some false=>match cs with
  |v::_=>some v
  | []=>none
 |none=>none
def nB (cm:Cm β) (P:Program) (H:GH) (t:TypeId) (a:TV) (K:TV->GH->Option β):Option β:=
 match a with
 | .ptr id off=>match H.get id with
  |some (.cells _ cs _)=>bif Nat.ble off cs.length then match fF P t (cs.drop off) with
   |some v=>K v H
   |none=>none
   else none
  |_=>none
 | .oC cs=>match fF P t cs with
  |some v=>K v H
  |none=>none
 | .jd id i off=>match H.get id with
  |some (.arr _ e xs _ _ _)=>bif Nat.ble off e.sz then cm.opt xs[i]? fun x=>match fF P t ((e.de x).drop off) with
   |some v=>K v H
   |none=>none
   else none
  |_=>none
 |_=>none
def B7 (cm:Cm β) (P:Program) (H:GH) (t:TypeId) (a v:TV) (K:TV->GH->Option β):Option β:=
 match P.info? t with
 |some i=>
  bif Nat.beq v.cells.length i.size &&v.cells.all TV.one then
   match a with
   | .ptr id off=>match H.get id with
    |some (.cells et cs true)=>bif Nat.ble (off+v.cells.length) cs.length && !v.cells.isEmpty then K .undef (H.put id (.cells et (dY cs off v.cells) true)) else none
    |_=>none
   | .jd id i off=>match iF v.cells H with
    |some (vs,H)=>match H.get id with
     |some (.arr et e xs true false em)=>cm.opt xs[i]? fun x=>
      bif Nat.ble (off+vs.length) e.sz && !vs.isEmpty then
       match e.jj (dY (e.de x) off vs) with
       |some y=>K .undef (H.put id (.arr et e (xs.set i y) true false em))
       |none=>none
      else none
     |_=>none
    |none=>none
   |_=>none
  else none
 |none=>none
def v8 (P:Program) (H:GH) (e:TypeId) (K:TV->GH->Option β):Option β:=
 match zeroOf P e with
 |some z=>bif z.cells.toList.all fy then K (.ptr H.n 0) (H.new (.cells e (z.cells.toList.map ja) true)) else none
 |none=>none
def TV.ok:TV->Bool
 | .undef | .jg _=>false
 | .raw v=>Oi v &&(match v with
  | .agg _=>false
  |_=>true)
 |_=>true
def Ky (H:GH) (e:TypeId) (v:TV) (K:TV->GH->Option β):Option β:=
 bif v.ok then K (.ptr H.n 0) (H.new (.cells e v.cells true)) else none
def WH (H:GH) (e:TypeId) (v:TV) (K:TV->GH->Option β):Option β:=
 match v with
 | .all id=>match iF [.all id] H with
  |some ([v],H)=>Ky H e v K
  |_=>none
 |v=>Ky H e v K
def pZ (place:Nat->Option (Nat×Nat)):List TV->List (Nat×TV)->Option (List TV)
 |cells,[]=>some cells
 |cells,(i,v)::rest=>match place i with
  |none=>none
  |some (off,size)=>bif Nat.beq v.cells.length size &&Nat.ble (off+v.cells.length) cells.length then pZ place (dY cells off v.cells) rest else none
def JD (P:Program) (H:GH) (t:TypeId) (ps:List (Nat×TV)) (K:TV->GH->Option β):Option β:=
 bif ps.all (fun p=>p.2.ok) then
  match zeroOf P t with
  |some z=>bif z.cells.toList.all fy then
   match P.underlying t with
   |some (.struct fs)=>match placesOf P fs.toList with
    |some places=>match pZ (fun i=>places[i]?) (z.cells.toList.map ja) ps with
     |some cells=>K (.agg cells) H
     |none=>none
    |none=>none
   |some (.array _ e)=>match P.info? e with
    |some i=>match pZ (fun j=>some (j*i.size,i.size)) (z.cells.toList.map ja) ps with
     |some cells=>K (.agg cells) H
     |none=>none
    |none=>none
   |_=>none
   else none
  |none=>none
 else none
def rowsOf (s:Sh):Nat->List TV->Option (List s.ty)
 |0,[]=>some []
 |0,_=>none
 |n+1,l=>match s.of l with
  |some (x,r)=>match rowsOf s n r with
   |some xs=>some (x::xs)
   |none=>none
  |none=>none
def PL (z:List TV):Nat->List TV
 |0=> []
 |n+1=>z++PL z n
def fm (P:Program) (sh:cA) (H:GH) (t:TypeId) (len:Nat) (ps:List (Nat×TV)) (K:TV->GH->Option β):Option β:=
 match bM P t with
 |some (e,i)=>
  bif Nat.ble (len*(i.size+1)) (2^24) &&ps.all (fun p=>p.2.ok) then
   match zeroOf P e,sh.ty e with
   |some z,some s=>bif Nat.beq z.cells.size i.size &&z.cells.toList.all fy &&Nat.beq s.sz i.size then
    match pZ (fun j=>some (j*i.size,i.size)) (PL (z.cells.toList.map ja) len) ps with
    |some cells=>match iF cells H with
     |some (cells,H)=>match rowsOf s len cells with
      |some xs=>K (.all H.n) (H.new (.arr e s xs true false .no))
      |none=>none
     |none=>none
    |none=>none
    else none
   |_,_=>none
  else none
 |none=>none
def Wo (H:GH) (x:TV) (K:TV->GH->Option β):Option β:=
 match x with
 | .ptr id off=>K (.ptr id off) H
 | .oC cs=>K (.oC cs) H
 | .jd id i off=>K (.jd id i off) H
 | .fn f a c=>K (.fn f a c) H
 | .mX l=>K (.mX l) H
 |_=>none
def wr (k:IntKind) (n:Int):TV:= .int k (k.wrap n)
def Ak (op:BinOp) (k:IntKind) (x y:Int):Option Int:=
 let a:=BitVec.ofInt k.bits x
 let b:=BitVec.ofInt k.bits y
 match op with
 | .and=>some (k.wrap (a &&&b).toNat)
 | .or=>some (k.wrap (a |||b).toNat)
 | .xor=>some (k.wrap (a^^^b).toNat)
 | .andNot=>some (k.wrap (a &&&~~~b).toNat)
 |_=>none
def SR (cm:Cm β) (H:GH) (op:BinOp) (k:IntKind) (n m:Int) (K:TV->GH->Option β):Option β:=
 match op with
 | .eql=>K (.bool (n==m)) H
 | .neq=>K (.bool (n !=m)) H
 | .lss=>K (.bool (aR n m)) H
 | .leq=>K (.bool (aQ n m)) H
 | .gtr=>K (.bool (aR m n)) H
 | .geq=>K (.bool (aQ m n)) H
 | .add=>K (wr k (n+m)) H
 | .sub=>K (wr k (n - m)) H
 | .mul=>K (wr k (n*m)) H
 | .quo=>cm.ep (m !=0) (K (wr k (n.tdiv m)) H)
 | .rem=>cm.ep (m !=0) (K (.int k (n.tmod m)) H)
 |op=>match Ak op k n m with
  |some r=>K (.int k r) H
  |none=>none
def wu (cm:Cm β) (H:GH) (op:BinOp) (k:IntKind) (x y:Int) (K:TV->GH->Option β):Option β:=
 cm.ep (aQ 0 y) (match op with
  | .shl=>K (wr k (x*2^(min y.toNat k.bits))) H
  | .shr=>K (.int k (x.fdiv (2^(min y.toNat k.bits)))) H
  |_=>none)
def LI (H:GH) (op:BinOp) (a b:UInt8) (K:TV->GH->Option β):Option β:=
 match op with
 | .eql=>K (.bool (a==b)) H
 | .neq=>K (.bool (a !=b)) H
 | .lss=>K (.bool (Nat.blt a.toNat b.toNat)) H
 | .leq=>K (.bool (Nat.ble a.toNat b.toNat)) H
 | .gtr=>K (.bool (Nat.blt b.toNat a.toNat)) H
 | .geq=>K (.bool (Nat.ble b.toNat a.toNat)) H
 | .add=>K (.byte (a+b)) H
 | .sub=>K (.byte (a - b)) H
 | .and=>K (.byte (a &&&b)) H
 | .or=>K (.byte (a |||b)) H
 | .xor=>K (.byte (a^^^b)) H
 |_=>none
def pW (cm:Cm β) (H:GH) (op:BinOp) (a:UInt8) (y:Int) (K:TV->GH->Option β):Option β:=
 cm.ep (aQ 0 y) (match op with
  | .shl=>K (.byte (UInt8.ofNat (a.toNat*2^(min y.toNat 8)))) H
  | .shr=>K (.byte (UInt8.ofNat (a.toNat / 2^(min y.toNat 8)))) H
  |_=>none)
def Tf (cm:Cm β) (H:GH) (op:BinOp) (a b:List UInt8) (K:TV->GH->Option β):Option β:=
 match op with
 | .eql=>K (.bool (a==b)) H
 | .neq=>K (.bool (!(a==b))) H
 | .lss=>K (.bool (Op.bytesLess a b)) H
 | .add=>cm.ep (Nat.ble (a.length+b.length) roomy) (K (.str (a++b)) H)
 |_=>none
def xv (cm:Cm β) (P:Program) (H:GH) (neg:Bool) (t:TypeId) (a b:TV) (K:TV->GH->Option β):Option β:=
 match P.underlying t,a,b with
 |some (.slice _),.aC _ _ (some c) _,.raw (.slice none 0 0) |some (.slice _),.raw (.slice none 0 0),.aC _ _ (some c) _=>K (.bool (if neg then !c else c)) H
 |some (.slice _),.aC _ xs none _,.raw (.slice none 0 0) |some (.slice _),.raw (.slice none 0 0),.aC _ xs none _=>cm.ep (!xs.isEmpty) (K (.bool neg) H)
 |some (.slice _),.all id,.raw (.slice none 0 0) |some (.slice _),.raw (.slice none 0 0),.all id=>match H.get id with
  |some (.arr _ _ xs _ _ em)=>match em with
   | .ex=>K (.bool (if neg then !xs.isEmpty else xs.isEmpty)) H
   |_=>cm.ep (!xs.isEmpty) (K (.bool neg) H)
  |_=>none
 |some (.slice _),.own _ _ len,.raw (.slice none 0 0) |some (.slice _),.raw (.slice none 0 0),.own _ _ len=>cm.ep (!Nat.beq len 0) (K (.bool neg) H)
 |some (.slice _),.raw (.slice none 0 0),.raw (.slice none 0 0)=>K (.bool (!neg)) H
 |some (.pointer _),.raw (.pointer none),.raw (.pointer none)=>K (.bool (!neg)) H
 |some (.pointer _),.ptr _ _,.raw (.pointer none) |some (.pointer _),.raw (.pointer none),.ptr _ _=>K (.bool neg) H
 |some (.pointer e),.ptr id o,.ptr id' o'=>bif Nat.beq id id' &&((P.info? e).map (·.size)).getD 0 !=0 &&(H.get id).isSome then K (.bool (if neg then !(Nat.beq o o') else Nat.beq o o')) H else none
 |some (.func _ _ _),.fn _ _ _,.raw .nilFunc |some (.func _ _ _),.raw .nilFunc,.fn _ _ _=>K (.bool neg) H
 |some (.func _ _ _),.raw .nilFunc,.raw .nilFunc=>K (.bool (!neg)) H
 |some (.map _ _),.raw (.map none),.raw (.map none)=>K (.bool (!neg)) H
 |some (.map _ _),.mp id,.raw (.map none)=>match H.get id with
  |some (.map _ _ _ _ _ xs em)=>bif em then K (.bool (if neg then !xs.isEmpty else xs.isEmpty)) H else K (.bool neg) H
  |_=>none
 |_,_,_=>none
def Ej (P:Program) (t:TypeId):TV->TV->Option Bool
 | .int k n,.int k' m=>match P.underlying t with
  |some (.int _)=>if k=k' then some (n==m) else none
  |_=>none
 | .byte a,.byte b=>match P.underlying t with
  |some (.int _)=>some (a==b)
  |_=>none
 | .bool a,.bool b=>match P.underlying t with
  |some .bool=>some (a==b)
  |_=>none
 | .str a,.str b=>match P.underlying t with
  |some .string=>some (a==b)
  |_=>none
 |_,_=>none
def Jg (P:Program):List Field->Nat->List TV->List TV->Option Bool
 | [],_,[],[]=>some true
 | f :: r, i, a :: as, b :: bs => bif f.name != "_" && Nat.beq f.offset i then
   match Ej P f.type a b,Jg P r (i+1) as bs with
   |some p,some q=>some (p &&q)
   |_,_=>none
  else none
 |_,_,_,_=>none
def xr (P:Program) (H:GH) (neg:Bool) (t:TypeId) (cs ds:List TV) (K:TV->GH->Option β):Option β:=
 match P.underlying t with
 |some (.struct fs)=>bif !P.stoodInHeld t && !P.eqGuardType P.depth t then match Jg P fs.toList 0 cs ds with
   |some r=>K (.bool (bif neg then !r else r)) H
   |none=>none
  else none
 |_=>none
def Tx (cm:Cm β) (P:Program) (H:GH) (op:BinOp) (t:TypeId) (a b:TV) (K:TV->GH->Option β):Option β:=
 match a,b with
 | .int k n,.int k' m=>match op with
  | .shl | .shr=>wu cm H op k n m K
  |op=>if k=k' then SR cm H op k n m K else none
 | .byte a,.byte b=>match op with
  | .shl | .shr=>pW cm H op a b.toNat K
  |op=>LI H op a b K
 | .byte a,.int _ m=>pW cm H op a m K
 | .int k n,.byte c=>wu cm H op k n c.toNat K
 | .str a,.str b=>Tf cm H op a b K
 | .bool a,.bool b=>match P.underlying t,op with
  |some .bool,.eql=>K (.bool (a==b)) H
  |some .bool,.neq=>K (.bool (!(a==b))) H
  |_,_=>none
 | .agg cs,.agg ds=>match op with
  | .eql=>xr P H false t cs ds K
  | .neq=>xr P H true t cs ds K
  |_=>none
 |a,b=>match op with
  | .eql=>xv cm P H false t a b K
  | .neq=>xv cm P H true t a b K
  |_=>none
def X7 (H:GH) (op:UnOp) (a:TV) (K:TV->GH->Option β):Option β:=
 match a,op with
 | .bool b,.not=>K (.bool !b) H
 | .int k n,.neg=>K (wr k (0 - n)) H
 |_,_=>none
def mU (H:GH) (s:Sh):TV->Option (List s.ty)
 | .raw (.slice none 0 0)=>some []
 | .aC e xs _ _=>match Sh.same e s with
  |some ⟨h⟩=>some (fG h xs)
  |none=>none
 | .all id=>match H.get id with
  |some (.arr _ e xs _ _ _)=>match Sh.same e s with
   |some ⟨h⟩=>some (fG h xs)
   |none=>none
  |_=>none
 | .own id off len=>match H.get id with
  |some (.arr _ e xs _ _ _)=>match Sh.same e s with
   |some ⟨h⟩=>some (fG h ((xs.drop off).take len))
   |none=>none
  |_=>none
 | .str t=>match Sh.same .byte s with
  |some ⟨h⟩=>some (fG h t)
  |none=>none
 |_=>none
def qv (cm:Cm β) (P:Program) (sh:cA) (H:GH) (argTypes:Array TypeId) (s x:TV) (K:TV->GH->Option β):Option β:=
 match argTypes[0]?,argTypes[1]? with
 |some t,some xt=>
  if isInt P xt then none else
  match bM P t with
  |some (e,i)=>match zeroOf P e,sh.ty e with
   |some z,some sp=>bif Nat.ble 1 i.size &&Nat.beq z.cells.size i.size &&Nat.beq sp.sz i.size then
    match mU H sp x with
    |some ys=>match s with
     | .raw (.slice none 0 0)=>cm.ep (Nat.ble (ys.length*(i.bytes+1)) roomy) (K (.all H.n) (H.new (.arr e sp ys true false .ex)))
     | .aC e' [] nl true=>cm.ep (Nat.ble (ys.length*(i.bytes+1)) roomy) (cm.WN ys.isEmpty (K (.aC e' [] nl true) H) (K (.all H.n) (H.new (.arr e sp ys true false .no))))
     | .all id=>match H.get id with
      |some (.arr et e' xs w false em)=>bif Nat.beq et e then match Sh.same e' sp with
       |some ⟨h⟩=>cm.ep (Nat.ble ((xs.length+ys.length)*(i.bytes+1)) roomy) (K (.all H.n) ((H.del id).new (.arr e sp (fG h xs++ys) w false em)))
       |none=>none
       else none
      |_=>none
     | .own id off len=>match H.get id with
      |some (.arr et e' xs true false em)=>bif Nat.beq et e then match Sh.same e' sp with
       |some ⟨h⟩=>cm.ep (Nat.ble ((len+ys.length)*(i.bytes+1)) roomy && !(em.si &&Nat.beq (len+ys.length) 0)) (K (.all H.n) ((H.del id).new (.arr e sp (fG h ((xs.drop off).take len)++ys) true false .no)))
       |none=>none
       else none
      |_=>none
     |_=>none
    |none=>none
    else none
   |_,_=>none
  |none=>none
 |_,_=>none
def JH (y:Nat):TV->Option (Bool×Nat)
 | .int _ i=>some (aQ 0 i &&aQ i y,i.toNat)
 |_=>none
def vd (y d:Nat):Option TV->Option (Bool×Nat)
 |some v=>JH y v
 |none=>some (true,d)
def kW (cm:Cm β) (len:Nat) (lo hi:Option TV) (K:Nat->Nat->Option β):Option β:=
 match vd len len hi with
 |some (c,h)=>cm.ep c (match vd h 0 lo with
  |some (d,l)=>cm.ep d (K l h)
  |none=>none)
 |none=>none
def Ju (cm:Cm β) (P:Program) (H:GH) (t:TypeId) (x:TV) (lo hi mx:Option TV) (K:TV->GH->Option β):Option β:=
 match P.underlying t,x,mx with
 |some .string,.str s,none=>kW cm s.length lo hi fun l h=>K (.str ((s.drop l).take (h - l))) H
 |some (.slice e),.raw (.slice none 0 0),none=>match P.info? e with
  |some _=>kW cm 0 lo hi fun _ _=>K Wy H
  |none=>none
 |some (.slice e),.aC s xs nl _,none=>match P.info? e with
  |some i=>bif Nat.beq s.sz i.size then kW cm xs.length lo hi fun l h=>K (.aC s ((xs.drop l).take (h - l)) nl false) H else none
  |none=>none
 |some (.slice e),.all id,none=>match P.info? e,H.get id with
  |some i,some (.arr _ s xs _ _ _)=>bif Nat.beq s.sz i.size then kW cm xs.length lo hi fun l h=>K (.own id l (h - l)) H else none
  |_,_=>none
 |some (.slice e),.own id off len,none=>match P.info? e,H.get id with
  |some i,some (.arr _ s _ _ _ _)=>bif Nat.beq s.sz i.size then kW cm len lo hi fun l h=>K (.own id (off+l) (h - l)) H else none
  |_,_=>none
 |some (.slice e),.aC s xs nl _,some (.int _ (.ofNat 0))=>match P.info? e,lo,hi with
  |some i,none,some (.int _ (.ofNat 0))=>bif Nat.beq s.sz i.size then
    match nl with
    |some false=>K (.aC s [] nl true) H
    |_=>cm.ep (!xs.isEmpty) (K (.aC s [] none true) H)
   else none
  |_,_,_=>none
 |_,_,_=>none
def Sl (P:Program) (H:GH) (t:TypeId) (x:TV) (K:TV->GH->Option β):Option β:=
 match P.underlying t,x with
 |some .string,.str s=>K (.int .i64 s.length) H
 |some (.array n _),_=>K (.int .i64 n) H
 |some (.slice _),.raw (.slice none 0 0)=>K (.int .i64 0) H
 |some (.slice _),.aC _ xs _ _=>K (.int .i64 xs.length) H
 |some (.slice _),.all id=>match H.get id with
  |some (.arr _ _ xs _ _ _)=>K (.int .i64 xs.length) H
  |_=>none
 |some (.slice _),.own _ _ len=>K (.int .i64 len) H
 |some (.map _ _),.raw (.map none)=>K (.int .i64 0) H
 |some (.map _ _),.mp id=>match H.get id with
  |some (.map _ _ _ _ _ xs _)=>K (.int .i64 xs.length) H
  |_=>none
 |_,_=>none
def vT (cm:Cm β) (i:Int):Nat->(Nat->Option β)->Option β
 |0,_=>none
 |n+1,K=>cm.WN (i==n) (K n) (vT cm i n K)
def Yf:TV->TV
 | .byte c=> .int .u8 c.toNat
 |t=>t
def fe (cm:Cm β) (P:Program) (sh:cA) (H:GH) (t:TypeId) (x ix:TV) (K:TV->GH->Option β):Option β:=
 match P.underlying t,x,ix with
 |some (.array n e),.ptr id off,.int _ i=>match P.info? e,H.get id with
  |some inf,some (.cells _ _ _)=>bif Nat.ble n 256 then vT cm i n fun j=>K (.ptr id (off+j*inf.size)) H else none
  |some inf,some (.arr _ s _ _ _ _)=>bif Nat.beq s.sz inf.size &&Nat.beq off 0 then cm.ep (aQ 0 i &&aR i n) (K (.jd id i.toNat 0) H) else none
  |some inf,none=>match sh.tb id with
   |some T=>bif Nat.beq T.e.sz inf.size &&Nat.beq off 0 &&Nat.blt id bU then cm.ep (aQ 0 i &&aR i n) (cm.opt T.xs[i.toNat]? fun y=>K (.oC (T.e.de y)) H) else none
   |none=>none
  |_,_=>none
 |some (.slice e),.aC s xs _ _,.int _ i=>match P.info? e with
  |some inf=>bif Nat.beq s.sz inf.size then cm.ep (aQ 0 i) (cm.opt xs[i.toNat]? fun y=>K (.oC (s.de y)) H) else none
  |none=>none
 |some (.slice e),.all id,.int _ i=>match P.info? e,H.get id with
  |some inf,some (.arr _ s xs _ _ _)=>bif Nat.beq s.sz inf.size then cm.ep (aQ 0 i &&aR i xs.length) (K (.jd id i.toNat 0) H) else none
  |_,_=>none
 |some (.slice e),.own id off len,.int _ i=>match P.info? e,H.get id with
  |some inf,some (.arr _ s _ _ _ _)=>bif Nat.beq s.sz inf.size then cm.ep (aQ 0 i &&aR i len) (K (.jd id (off+i.toNat) 0) H) else none
  |_,_=>none
 |_,_,_=>none
def BN (cm:Cm β) (P:Program) (H:GH) (t:TypeId) (x ix:TV) (K:TV->GH->Option β):Option β:=
 match P.underlying t,x,ix with
 |some .string,.str s,.int _ i=>cm.ep (aQ 0 i) (cm.opt s[i.toNat]? fun c=>K (.byte c) H)
 |some (.array n e),.agg cs,.int _ i=>match P.info? e with
  |some inf=>bif Nat.ble n 256 then vT cm i n fun j=>match fF P e (cs.drop (j*inf.size)) with
    |some v=>K v H
    |none=>none
   else none
  |none=>none
 |_,_,_=>none
def iX (P:Program) (H:GH) (s:TypeId) (x:TV) (f:Nat) (K:TV->GH->Option β):Option β:=
 match P.underlying s with
 |some (.struct fs)=>match fs[f]? with
  |some fd=>match P.info? fd.type with
   |some i=>bif Nat.beq i.size 0 then none else match x with
    | .ptr id off=>K (.ptr id (off+fd.offset)) H
    | .oC cs=>bif Nat.ble fd.offset cs.length then K (.oC (cs.drop fd.offset)) H else none
    | .jd id j off=>K (.jd id j (off+fd.offset)) H
    |_=>none
   |none=>none
  |none=>none
 |_=>none
def Dj (P:Program) (H:GH) (t:TypeId) (x:TV) (f:Nat) (K:TV->GH->Option β):Option β:=
 match P.underlying t,x with
 |some (.struct fs),.agg cs=>match fs[f]? with
  |some fd=>match fF P fd.type (cs.drop fd.offset) with
   |some v=>K v H
   |none=>none
  |none=>none
 |_,_=>none
def iQ (cm:Cm β) (P:Program) (sh:cA) (H:GH) (t:TypeId) (eq:Bool) (l c:TV) (K:TV->GH->Option β):Option β:=
 match bM P t,l,c with
 |some (e,i),.int .i64 l,.int .i64 c=>
  match zeroOf P e,sh.ty e with
  |some z,some s=>bif Nat.beq z.cells.size i.size &&z.cells.toList.all fy &&Nat.beq s.sz i.size then
   match s.jj (z.cells.toList.map ja) with
   |some zz=>cm.ep (aQ 0 l &&aQ l c &&aQ (c*(i.bytes+1)) roomy) (K (bif eq then .all H.n else .own H.n 0 l.toNat) (H.new (.arr e s (List.replicate c.toNat zz) true false .no)))
   |none=>none
   else none
  |_,_=>none
 |_,_,_=>none
def rX (P:Program) (H:GH) (e:TypeId) (x:TV) (K:TV->GH->Option β):Option β:=
 match P.underlying e,x with
 |some (.int .u8),x=>match mU H .byte x with
  |some s=>K (.str s) H
  |none=>none
 |_,_=>none
def pV (P:Program) (H:GH) (src dst:TypeId) (x:TV) (K:TV->GH->Option β):Option β:=
 match P.underlying src,P.underlying dst with
 |some (.int _),some (.int k)=>match x with
  | .int _ n=>bif (match k with | .u8=>true |_=>false) then K (.byte (UInt8.ofNat (IntKind.u8.wrap n).toNat)) H else K (wr k n) H
  | .byte c=>bif (match k with | .u8=>true |_=>false) then K (.byte c) H else K (wr k c.toNat) H
  |_=>none
 |some (.int _),some .string=>match x with
  | .int _ n=>K (.str (bl (Utf8.encode n))) H
  | .byte c=>K (.str (bl (Utf8.encode c.toNat))) H
  |_=>none
 |some .string,some .string=>match x with
  | .str s=>K (.str s) H
  |_=>none
 |some .string,some (.slice e)=>match P.underlying e,x with
  |some (.int .u8),.str s=>K (.aC .byte s (some false) false) H
  |_,_=>none
 |some (.slice e),some .string=>match x with
  | .str _=>none
  |x=>rX P H e x K
 |some (.pointer t),some .unsafePointer=>match x with
  | .ptr id off=>match H.get id with
   |some (.cells _ cs _)=>bif !Nat.beq (P.cellsOf t) 0 &&Nat.blt off cs.length then K (.ptr id off) H else none
   |_=>none
  | .raw (.pointer none)=>K x H
  |_=>none
 |some .unsafePointer,some (.pointer u)=>match x with
  | .ptr id off=>match H.get id with
   |some (.cells et cs true)=>bif !Nat.beq (P.cellsOf u) 0 &&liesAt P P.depth et (cs.length / P.cellsOf et) off u 1 then K (.ptr id off) H else none
   |_=>none
  | .raw (.pointer none)=>K x H
  |_=>none
 |_,_=>none
def LZ (P:Program) (e:TypeId) (ge:Bool) (es:Sh):Option es.ty:=
 match zeroOf P e with
 |some z=>bif (match z with | .agg _=>ge |_=> !ge) &&z.cells.toList.all fy then es.jj (z.cells.toList.map ja) else none
 |none=>none
def Ci (P:Program) (sh:cA) (H:GH) (t:TypeId) (x k:TV) (ok:Bool) (K:TV->GH->Option β):Option β:=
 match pJ P t,x with
 |some (kt,e),.mp id=>match H.get id with
  |some (.map kt' gk ge ks es xs _)=>bif Nat.beq kt kt' then
   match Rl gk ks k,LZ P e ge es with
   |some kx,some z=>K (bif ok then .jg [UP ge es (nV ks xs kx z),.bool (FJ ks xs kx)] else UP ge es (nV ks xs kx z)) H
   |_,_=>none
   else none
  |_=>none
 |some (kt,e),.raw (.map none)=>match sh.ty kt,sh.ty e with
  |some ks,some es=>bif nL P kt (WV k) ks then
   match Rl (WV k) ks k,eK P e with
   |some _,some ge=>match LZ P e ge es with
    |some z=>K (bif ok then .jg [UP ge es z,.bool false] else UP ge es z) H
    |none=>none
   |_,_=>none
   else none
  |_,_=>none
 |_,_=>none
def BR (cm:Cm β) (P:Program) (H:GH) (t:TypeId) (m k v:TV) (K:TV->GH->Option β):Option β:=
 match pJ P t,m with
 |some (kt,_),.mp id=>match iF v.cells H with
  |some (cs,H)=>match H.get id with
   |some (.map kt' gk ge ks es xs em)=>bif Nat.beq kt kt' &&(bif ge then WV v else v.one) then
    match Rl gk ks k,es.jj cs with
    |some kx,some y=>cm.ep (!(em &&xs.isEmpty)) (K .undef (H.put id (.map kt' gk ge ks es (iW ks xs kx y) em)))
    |_,_=>none
    else none
   |_=>none
  |none=>none
 |_,_=>none
def mH (P:Program) (sh:cA) (H:GH) (t:TypeId) (r:Option TV) (K:TV->GH->Option β):Option β:=
 match pJ P t with
 |some (kt,e)=>match sh.ty kt,sh.ty e,eK P kt,eK P e with
  |some ks,some es,some gk,some ge=>bif (match r with
    |none=>true
    |some (.int _ _)=>true
    |_=>false) &&nL P kt gk ks then K (.mp H.n) (H.new (.map kt gk ge ks es [] false)) else none
  |_,_,_,_=>none
 |none=>none
def Jf (P:Program) (H:GH) (t:TypeId) (x:TV) (K:TV->GH->Option β):Option β:=
 match P.underlying t,x with
 |some .string,.str s=>K (.ptr H.n 0) (H.new (.iter s 0))
 |_,_=>none
def OS (cm:Cm β) (H:GH) (it:TV) (K:TV->GH->Option β):Option β:=
 match it with
 | .ptr r 0=>match H.get r with
  |some (.iter s pos)=>cm.WN (Nat.blt pos s.length)
    (K (.jg [.bool true,.int .i64 pos,.int .i32 (Utf8.decode (ba s) pos).1]) (H.put r (.iter s (pos+(Utf8.decode (ba s) pos).2))))
    (K (.jg [.bool false]) H)
  |_=>none
 |_=>none
def TU:TV->Option Value
 | .int k n=>some (.int k n)
 | .bool b=>some (.bool b)
 |_=>none
def SW:List TV->Option (List Value)
 | []=>some []
 |t::r=>match TU t,SW r with
  |some v,some vs=>some (v::vs)
  |_,_=>none
def Yt:TV->Option Value
 | .agg cs=>match SW cs with
  |some vs=>some (.agg ⟨vs⟩)
  |none=>none
 |t=>TU t
def QN:Value->TV
 | .int k n=> .int k n
 | .bool b=> .bool b
 |_=> .undef
def Yc:Value->TV
 | .agg cs=> .agg (cs.toList.map QN)
 |v=>QN v
def oI (P:Program) (H:GH) (t:TypeId) (x:TV) (K:TV->GH->Option β):Option β:=
 match P.underlying t with
 |some (.interface _)=>none
 |some _=>match Yt x with
  |some v=>K (.raw (.iface t v)) H
  |none=>none
 |none=>none
def mJ (P:Program) (H:GH) (x:TV) (asserted:TypeId) (ok:Bool) (K:TV->GH->Option β):Option β:=
 match P.underlying asserted,x with
 |some (.interface _),_=>none
 |some _,.raw (.iface t v)=>bif Nat.beq t asserted then K (bif ok then .jg [Yc v,.bool true] else Yc v) H else none
 |_,_=>none
def IL (H:GH) (x:TV) (K:TV->GH->Option β):Option β:=
 match x with
 | .raw (.iface t v)=>K (.H5 (.iface t v)) H
 |_=>none
def Om {α:Type} (v:TV) (p:Value->α) (k:α):α:=match v with
 | .H5 w=>p w
 |_=>k
def qg (H:GH) (tp:TV) (i:Nat) (K:TV->GH->Option β):Option β:=
 match tp with
 | .jg vs=>match vs[i]? with
  |some v=>K v H
  |none=>none
 |_=>none
def Ls (H:GH) (c a b:TV) (K:TV->GH->Option β):Option β:=
 match c with
 | .bool t=>match a,b with
  | .bool x,.bool y=>K (.bool (bif t then x else y)) H
  |a,b=>@Bool.rec (fun _=>Option β) (K b H) (K a H) t
 |_=>none
end
end Go.Gv
