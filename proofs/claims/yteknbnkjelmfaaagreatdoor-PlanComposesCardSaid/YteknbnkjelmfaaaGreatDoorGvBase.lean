/- The pure evaluator (the first part): shapes, plain values, a heap of few named objects, operations. Lists that nobody writes any more are plain Lean lists. -/
import Derived.Test.YteknbnkjelmfaaaGreatDoorIvEval
set_option linter.unusedSimpArgs false
set_option linter.unusedVariables false
namespace Go.Gv
open Go Go.Iv
noncomputable section
inductive Sh where
 |int (k:IntKind)
 |byte
 |bool
 |str
 |cons (a b:Sh)
 |bH (e:Sh)
abbrev Sh.ty:Sh->Type
 | .int _=>Int
 | .byte=>UInt8
 | .bool=>Bool
 | .str=>List UInt8
 | .cons a b=>a.ty×b.ty
 | .bH e=>List e.ty
def Sh.sz:Sh->Nat
 | .cons a b=>a.sz+b.sz
 |_=>1
def Sh.same:(a b:Sh)->Option (PLift (a=b))
 | .int k,.int k'=>if h:k=k' then some ⟨by rw [h]⟩ else none
 | .byte,.byte=>some ⟨rfl⟩
 | .bool,.bool=>some ⟨rfl⟩
 | .str,.str=>some ⟨rfl⟩
 | .cons a b,.cons a' b'=>match Sh.same a a',Sh.same b b' with
  |some ⟨h⟩,some ⟨h'⟩=>some ⟨by rw [h,h']⟩
  |_,_=>none
 | .bH e,.bH e'=>match Sh.same e e' with
  |some ⟨h⟩=>some ⟨by rw [h]⟩
  |none=>none
 |_,_=>none
def fg {a b:Sh} (h:a=b) (xs:List a.ty):List b.ty:=h▸xs
inductive TV where
 |int (k:IntKind) (n:Int)
 |byte (c:UInt8)
 |bool (b:Bool)
 |str (s:List UInt8)
 |agg (cs:List TV)
 |ja (vs:List TV)
 |aB (e:Sh) (xs:List e.ty) (nl:Option Bool) (cl:Bool)
 |all (id:Nat)
 |own (id off len:Nat)
 |ptr (id off:Nat)
 |nL (cs:List TV)
 |iO (id i off:Nat)
 |fn (f:FuncId) (first captured:List TV)
 |mo (l:Nat)
 |mp (id:Nat)
 |raw (v:Value)
 |undef
 |J6 (v:Value)
instance:Inhabited TV:=⟨.undef⟩
def TV.cells:TV->List TV
 | .agg cs=>cs
 |v=> [v]
def TV.one:TV->Bool
 | .agg _ | .ja _ | .undef | .J6 _=>false
 | .raw v=>Iv.one v
 |_=>true
def SK:TV:= .raw (.slice none 0 0)
def Sh.cV:(s:Sh)->s.ty->List TV
 | .int k,n=> [.int k n]
 | .byte,c=> [.byte c]
 | .bool,b=> [.bool b]
 | .str,s=> [.str s]
 | .cons a b,x=>a.cV x.1++b.cV x.2
 | .bH e,xs=> [.aB e xs none false]
def ofInt (k:IntKind):List TV->Option (Int×List TV)
 | .int k' n::r=>if k=k' then some (n,r) else none
 |_=>none
def yK:List TV->Option (UInt8×List TV)
 | .byte c::r=>some (c,r)
 |_=>none
def ofBool:List TV->Option (Bool×List TV)
 | .bool b::r=>some (b,r)
 |_=>none
def ofStr:List TV->Option (List UInt8×List TV)
 | .str s::r=>some (s,r)
 |_=>none
def xG (e:Sh):List TV->Option (List e.ty×List TV)
 | .aB e' xs _ _::r=>match Sh.same e' e with
  |some ⟨h⟩=>some (fg h xs,r)
  |none=>none
 | .raw (.slice none 0 0)::r=>some ([],r)
 |_=>none
def Sh.of:(s:Sh)->List TV->Option (s.ty×List TV)
 | .int k,l=>ofInt k l
 | .byte,l=>yK l
 | .bool,l=>ofBool l
 | .str,l=>ofStr l
 | .cons a b,l=>match a.of l with
  |some (x,l)=>match b.of l with
   |some (y,l)=>some ((x,y),l)
   |none=>none
  |none=>none
 | .bH e,l=>xG e l
def Sh.jE (s:Sh) (l:List TV):Option s.ty:=
 match s.of l with
 |some (x,[])=>some x
 |_=>none
def xK:Sh->Bool
 | .cons a b=>xK a &&xK b
 | .bH _=>false
 |_=>true
def JA:Sh->Nat->Sh->Bool
 | .cons a b,no,ne=>bif Nat.blt no a.sz then JA a no ne &&xK b else xK a &&JA b (no - a.sz) ne
 | .bH e,0,ne=>(Sh.same e ne).isSome
 |_,_,_=>false
def aL:(e:Sh)->Nat->(ne:Sh)->e.ty->List ne.ty
 | .cons a b,no,ne,x=>@Bool.rec (fun _=>List ne.ty) (aL b (no - a.sz) ne x.2) (aL a no ne x.1) (Nat.blt no a.sz)
 | .bH e,_,ne,x=>match Sh.same e ne with
  |some ⟨h⟩=>fg h x
  |none=> []
 |_,_,_,_=> []
def dj:(e:Sh)->Nat->(ne:Sh)->e.ty->List ne.ty->e.ty
 | .cons a b,no,ne,x,ys=>@Bool.rec (fun _=>a.ty×b.ty) (x.1,dj b (no - a.sz) ne x.2 ys) (dj a no ne x.1 ys,x.2) (Nat.blt no a.sz)
 | .bH e,_,ne,x,ys=>match Sh.same ne e with
  |some ⟨h⟩=>fg h ys
  |none=>x
 |_,_,_,x,_=>x
def Sh.CX:(s:Sh)->s.ty->s.ty->Bool
 | .int _,a,b=>((a:Int)==b)
 | .byte,a,b=>((a:UInt8)==b)
 | .bool,a,b=>((a:Bool)==b)
 | .str,a,b=>((a:List UInt8)==b)
 | .cons p q,a,b=>p.CX a.1 b.1 &&q.CX a.2 b.2
 | .bH _,_,_=>false
def ll (k:Sh) {Z:Type}:List (k.ty×Z)->k.ty->Option Z
 | [],_=>none
 |p::r,x=>bif k.CX x p.1 then some p.2 else ll k r x
def aW (k:Sh) {Z:Type} (l:List (k.ty×Z)) (x:k.ty) (d:Z):Z:=(ll k l x).getD d
def IY (k:Sh) {Z:Type} (l:List (k.ty×Z)) (x:k.ty):Bool:=(ll k l x).isSome
def de (k:Sh) {Z:Type}:List (k.ty×Z)->k.ty->Z->List (k.ty×Z)
 | [],x,y=> [(x,y)]
 |p::r,x,y=>bif k.CX x p.1 then (x,y)::r else p::de k r x y
def jW:Value->TV
 | .int .u8 n=> .byte (UInt8.ofNat n.toNat)
 | .int k n=> .int k n
 | .bool b=> .bool b
 | .string s=> .str (bl s)
 |v=> .raw v
def fQ:Value->Bool
 | .int .u8 (.ofNat n)=>Nat.ble n 255
 | .int .u8 _=>false
 |_=>true
def conv (v:Value):TV:=
 bif free v then match v with
  | .agg cs=>bif cs.toList.all fQ then .agg (cs.toList.map jW) else .undef
  | .tuple _ | .iface _ _=> .undef
  |v=>bif fQ v then jW v else .undef
 else .undef
inductive DN where
 |e
 |c (k:Nat) (v:TV) (r:DN)
structure GE where
 loc:DN
 tmp:DN
def eT:DN->Nat->TV
 | .e,_=> .undef
 | .c k v r,t=>bif Nat.beq k t then v else eT r t
def mP:DN->Nat->TV->DN
 | .e,d,v=> .c d v .e
 | .c k u r,d,v=>bif Nat.beq k d then .c d v r else .c k u (mP r d v)
def fe (fi:FI) (E:GE) (t:Nat):TV:=
 match cls fi t with
 | .out=> .undef
 | .loc=>eT E.loc t
 | .tmp=>eT E.tmp t
def cO (fi:FI) (d:Nat) (v:TV) (E:GE):GE:=
 match cls fi d with
 | .out=>E
 | .loc=>⟨mP E.loc d v,E.tmp⟩
 | .tmp=>⟨E.loc,.c d v E.tmp⟩
def GE.reset (E:GE):GE:=⟨E.loc,.e⟩
def c8 (fi:FI) (E:GE) (dst:Option Tmp) (v:TV):GE:=
 match dst with
 |some d=>cO fi d v E
 |none=>E
inductive Em where
 |ex |any |no
 deriving DecidableEq
def Em.sY:Em->Bool
 | .no=>false
 |_=>true
def Em.le:Em->Em->Bool
 | .ex,.ex=>true
 | .no,.no=>true
 |_,.any=>true
 |_,_=>false
instance:Coe Bool Em:=⟨fun b=>bif b then .ex else .no⟩
inductive bu where
 |cells (et:TypeId) (cs:List TV) (wr:Bool)
 |arr (et:TypeId) (e:Sh) (xs:List e.ty) (wr fz:Bool) (em:Em)
 |iter (s:List UInt8) (pos:Nat)
 |nest (et:TypeId) (e:Sh) (no:Nat) (net:TypeId) (ne:Sh) (xs:List e.ty) (em:Em) (ho:Option (Nat×Nat×e.ty))
 |map (kt:TypeId) (gk ge:Bool) (k e:Sh) (xs:List (k.ty×e.ty)) (em:Bool)
 |gw (kt:TypeId) (gk:Bool) (k:Sh) (net:TypeId) (ne:Sh) (xs:List (k.ty×List ne.ty)) (ho:Option (k.ty×Nat))
 |loop (bx:Nat) (st:LoopState) (pd:Option Code) (fi:FI) (E:GE) (ps:List Tmp) (eo body:Code)
structure GH where
 t:Tr (Nat×bu)
 n:Nat
 ck:Nat
def GH.get (H:GH) (b:Nat):Option bu:=match H.t.k9 b with
 |some (_,o)=>some o
 |none=>none
def GH.aH (H:GH) (b:Nat):Option Nat:=match H.t.k9 b with
 |some (s,_)=>some s
 |none=>none
def GH.put (H:GH) (b:Nat) (o:bu):GH:=⟨Tr.pR (some (H.ck,o)) (Nat.succ b) H.t b,H.n,Nat.succ H.ck⟩
def GH.del (H:GH) (b:Nat):GH:=⟨Tr.pR none (Nat.succ b) H.t b,H.n,H.ck⟩
def GH.new (H:GH) (o:bu):GH:=⟨Tr.pR (some (H.ck,o)) (Nat.succ H.n) H.t H.n,Nat.succ H.n,Nat.succ H.ck⟩
variable {Z:Type}
structure Cm (Z:Type) where
 eF:Bool->Option Z->Option Z
 Rr:Bool->Option Z->Option Z->Option Z
 opt:{α:Type}->Option α->(α->Option Z)->Option Z
def dS:Cm Z:=⟨fun b r=>bif b then r else none,fun b t e=>bif b then t else e,fun o k=>o.bind k⟩
structure Cx (Z:Type) where
 cm:Cm Z
 jn:{α:Type}->(Cm α->Option α)->(α->Option Z)->Option Z
def stx:Cx Z:=⟨dS,fun f k=>(f dS).bind k⟩
structure Tb where
 e:Sh
 xs:List e.ty
structure bU where
 ty:TypeId->Option Sh
 tb:Nat->Option Tb
 tF:List (TypeId×Nat×TypeId):= []
 VA:List TypeId:= []
def GU:List (TypeId×Nat×TypeId)->TypeId->Option (Nat×TypeId)
 | [],_=>none
 |(e,x)::r,k=>bif Nat.beq e k then some x else GU r k
def NJ:List (Nat×Tb)->Nat->Option Tb
 | [],_=>none
 |(g,T)::r,k=>bif Nat.beq g k then some T else NJ r k
def rS (H:GH):TV->Option (TV×GH)
 | .all id=>match H.get id with
  |some (.arr et e xs wr fz em)=>some (.aB e xs none false,bif fz then H else H.put id (.arr et e xs wr true em))
  |some (.nest et e _ _ _ xs em none)=>some (.aB e xs none false,H.put id (.arr et e xs true true em))
  |_=>none
 | .own id off len=>match H.get id with
  |some (.arr et e xs wr fz em)=>some (.aB e ((xs.drop off).take len) none false,bif fz then H else H.put id (.arr et e xs wr true em))
  |_=>none
 | .aB e xs nl cl=>some (.aB e xs nl cl,H)
 | .int k n=>some (.int k n,H)
 | .byte c=>some (.byte c,H)
 | .bool b=>some (.bool b,H)
 | .str s=>some (.str s,H)
 | .raw (.slice none 0 0)=>some (SK,H)
 |_=>none
def ik:List TV->GH->Option (List TV×GH)
 | [],H=>some ([],H)
 |v::r,H=>match rS H v with
  |some (v,H)=>match ik r H with
   |some (r,H)=>some (v::r,H)
   |none=>none
  |none=>none
def dD (fi:FI) (E:GE):Operand->TV
 | .tmp t=>fe fi E t
 | .const v=>conv v
 | .global g=>bif Nat.ble (Nat.succ g) bI then .ptr g 0 else .undef
 | .func f=> .fn f [] []
def dO:List TV->Nat->List TV->List TV
 |cs,_,[]=>cs
 |cs,off,v::vs=>dO (cs.set off v) (off+1) vs
def ri (P:Program) (t:TypeId):Sh->Bool
 | .int k=>match P.underlying t with
  |some (.int k')=>k==k'
  |_=>false
 | .byte=>match P.underlying t with
  |some (.int .u8)=>true
  |_=>false
 | .bool=>match P.underlying t with
  |some .bool=>true
  |_=>false
 | .str=>match P.underlying t with
  |some .string=>true
  |_=>false
 |_=>false
def ni (P:Program) (kt:TypeId) (g:Bool) (k:Sh):Bool:=
 match P.underlying kt with
 |some (.struct _)=>false
 |_=> !g &&ri P kt k
def Tf:TV->Bool
 | .agg _=>true
 |_=>false
def M4 (g:Bool) (k:Sh) (t:TV):Option k.ty:=bif (bif g then Tf t else t.one) then k.jE t.cells else none
def P3 (g:Bool) (s:Sh) (x:s.ty):TV:=bif g then .agg (s.cV x) else (s.cV x).headD .undef
def eO (P:Program) (t:TypeId) (cs:List TV):Option TV:=
 match gI P t with
 |some true=>match P.info? t with
  |some i=>bif Nat.ble i.size cs.length then some (.agg (cs.take i.size)) else none
  |none=>none
 |some false=>match cs with
  |v::_=>some v
  | []=>none
 |none=>none
def ny (cm:Cm Z) (P:Program) (H:GH) (t:TypeId) (a:TV) (K:TV->GH->Option Z):Option Z:=
 match a with
 | .ptr id off=>match H.get id with
  |some (.cells _ cs _)=>bif Nat.ble off cs.length then match eO P t (cs.drop off) with
   |some v=>K v H
   |none=>none
   else none
  |_=>none
 | .nL cs=>match eO P t cs with
  |some v=>K v H
  |none=>none
 | .iO id i off=>match H.get id with
  |some (.arr _ e xs _ _ _)=>bif Nat.ble off e.sz then cm.opt xs[i]? fun x=>match eO P t ((e.cV x).drop off) with
   |some v=>K v H
   |none=>none
   else none
  |_=>none
 |_=>none
def yU (cm:Cm Z) (P:Program) (H:GH) (t:TypeId) (a v:TV) (K:TV->GH->Option Z):Option Z:=
 match P.info? t with
 |some i=>
  bif Nat.beq v.cells.length i.size &&v.cells.all TV.one then
   match a with
   | .ptr id off=>match H.get id with
    |some (.cells et cs true)=>bif Nat.ble (off+v.cells.length) cs.length && !v.cells.isEmpty then K .undef (H.put id (.cells et (dO cs off v.cells) true)) else none
    |_=>none
   | .iO id i off=>match ik v.cells H with
    |some (vs,H)=>match H.get id with
     |some (.arr et e xs true false em)=>cm.opt xs[i]? fun x=>
      bif Nat.ble (off+vs.length) e.sz && !vs.isEmpty then
       match e.jE (dO (e.cV x) off vs) with
       |some y=>K .undef (H.put id (.arr et e (xs.set i y) true false em))
       |none=>none
      else none
     |_=>none
    |none=>none
   |_=>none
  else none
 |none=>none
def vp (P:Program) (H:GH) (e:TypeId) (K:TV->GH->Option Z):Option Z:=
 match zeroOf P e with
 |some z=>bif z.cells.toList.all fQ then K (.ptr H.n 0) (H.new (.cells e (z.cells.toList.map jW) true)) else none
 |none=>none
def TV.ok:TV->Bool
 | .undef | .ja _=>false
 | .raw v=>P8 v &&(match v with
  | .agg _=>false
  |_=>true)
 |_=>true
def Gn (H:GH) (e:TypeId) (v:TV) (K:TV->GH->Option Z):Option Z:=
 bif v.ok then K (.ptr H.n 0) (H.new (.cells e v.cells true)) else none
def SD (H:GH) (e:TypeId) (v:TV) (K:TV->GH->Option Z):Option Z:=
 match v with
 | .all id=>match ik [.all id] H with
  |some ([v],H)=>Gn H e v K
  |_=>none
 |v=>Gn H e v K
def oO (place:Nat->Option (Nat×Nat)):List TV->List (Nat×TV)->Option (List TV)
 |cells,[]=>some cells
 |cells,(i,v)::rest=>match place i with
  |none=>none
  |some (off,size)=>bif Nat.beq v.cells.length size &&Nat.ble (off+v.cells.length) cells.length then oO place (dO cells off v.cells) rest else none
def EP (P:Program) (H:GH) (t:TypeId) (ps:List (Nat×TV)) (K:TV->GH->Option Z):Option Z:=
 bif ps.all (fun p=>p.2.ok) then
  match zeroOf P t with
  |some z=>bif z.cells.toList.all fQ then
   match P.underlying t with
   |some (.struct fs)=>match placesOf P fs.toList with
    |some places=>match oO (fun i=>places[i]?) (z.cells.toList.map jW) ps with
     |some cells=>K (.agg cells) H
     |none=>none
    |none=>none
   |some (.array _ e)=>match P.info? e with
    |some i=>match oO (fun j=>some (j*i.size,i.size)) (z.cells.toList.map jW) ps with
     |some cells=>K (.agg cells) H
     |none=>none
    |none=>none
   |_=>none
   else none
  |none=>none
 else none
def rowsOf (s:Sh):Nat->List TV->Option (List s.ty)
 |0,[]=>some []
 |0,_=>none
 |n+1,l=>match s.of l with
  |some (x,r)=>match rowsOf s n r with
   |some xs=>some (x::xs)
   |none=>none
  |none=>none
def M6 (z:List TV):Nat->List TV
 |0=> []
 |n+1=>z++M6 z n
def eg (P:Program) (sh:bU) (H:GH) (t:TypeId) (len:Nat) (ps:List (Nat×TV)) (K:TV->GH->Option Z):Option Z:=
 match cu P t with
 |some (e,i)=>
  bif Nat.ble (len*(i.size+1)) (2^24) &&ps.all (fun p=>p.2.ok) then
   match zeroOf P e,sh.ty e with
   |some z,some s=>bif Nat.beq z.cells.size i.size &&z.cells.toList.all fQ &&Nat.beq s.sz i.size then
    match oO (fun j=>some (j*i.size,i.size)) (M6 (z.cells.toList.map jW) len) ps with
    |some cells=>match ik cells H with
     |some (cells,H)=>match rowsOf s len cells with
      |some xs=>K (.all H.n) (H.new (.arr e s xs true false .no))
      |none=>none
     |none=>none
    |none=>none
    else none
   |_,_=>none
  else none
 |none=>none
def R4 (H:GH) (x:TV) (K:TV->GH->Option Z):Option Z:=
 match x with
 | .ptr id off=>K (.ptr id off) H
 | .nL cs=>K (.nL cs) H
 | .iO id i off=>K (.iO id i off) H
 | .fn f a c=>K (.fn f a c) H
 | .mo l=>K (.mo l) H
 |_=>none
def wr (k:IntKind) (n:Int):TV:= .int k (k.wrap n)
def xZ (op:BinOp) (k:IntKind) (x y:Int):Option Int:=
 let a:=BitVec.ofInt k.bits x
 let b:=BitVec.ofInt k.bits y
 match op with
 | .and=>some (k.wrap (a &&&b).toNat)
 | .or=>some (k.wrap (a |||b).toNat)
 | .xor=>some (k.wrap (a^^^b).toNat)
 | .andNot=>some (k.wrap (a &&&~~~b).toNat)
 |_=>none
def OC (cm:Cm Z) (H:GH) (op:BinOp) (k:IntKind) (n m:Int) (K:TV->GH->Option Z):Option Z:=
 match op with
 | .eql=>K (.bool (n==m)) H
 | .neq=>K (.bool (n !=m)) H
 | .lss=>K (.bool (aD n m)) H
 | .leq=>K (.bool (ak n m)) H
 | .gtr=>K (.bool (aD m n)) H
 | .geq=>K (.bool (ak m n)) H
 | .add=>K (wr k (n+m)) H
 | .sub=>K (wr k (n - m)) H
 | .mul=>K (wr k (n*m)) H
 | .quo=>cm.eF (m !=0) (K (wr k (n.tdiv m)) H)
 | .rem=>cm.eF (m !=0) (K (.int k (n.tmod m)) H)
 |op=>match xZ op k n m with
  |some r=>K (.int k r) H
  |none=>none
def u6 (cm:Cm Z) (H:GH) (op:BinOp) (k:IntKind) (x y:Int) (K:TV->GH->Option Z):Option Z:=none
def GZ (H:GH) (op:BinOp) (a b:UInt8) (K:TV->GH->Option Z):Option Z:=
 match op with
 | .eql=>K (.bool (a==b)) H
 | .neq=>K (.bool (a !=b)) H
 | .lss=>K (.bool (Nat.blt a.toNat b.toNat)) H
 | .leq=>K (.bool (Nat.ble a.toNat b.toNat)) H
 | .gtr=>K (.bool (Nat.blt b.toNat a.toNat)) H
 | .geq=>K (.bool (Nat.ble b.toNat a.toNat)) H
 | .add=>K (.byte (a+b)) H
 | .sub=>K (.byte (a - b)) H
 | .and=>K (.byte (a &&&b)) H
 | .or=>K (.byte (a |||b)) H
 | .xor=>K (.byte (a^^^b)) H
 |_=>none
def oX (cm:Cm Z) (H:GH) (op:BinOp) (a:UInt8) (y:Int) (K:TV->GH->Option Z):Option Z:=none
def PB (cm:Cm Z) (H:GH) (op:BinOp) (a b:List UInt8) (K:TV->GH->Option Z):Option Z:=
 match op with
 | .eql=>K (.bool (a==b)) H
 | .neq=>K (.bool (!(a==b))) H
 | .lss=>K (.bool (Op.bytesLess a b)) H
 | .add=>cm.eF (Nat.ble (a.length+b.length) roomy) (K (.str (a++b)) H)
 |_=>none
def vq (cm:Cm Z) (P:Program) (H:GH) (neg:Bool) (t:TypeId) (a b:TV) (K:TV->GH->Option Z):Option Z:=
 match P.underlying t,a,b with
 |some (.slice _),.aB _ _ (some c) _,.raw (.slice none 0 0) |some (.slice _),.raw (.slice none 0 0),.aB _ _ (some c) _=>K (.bool (if neg then !c else c)) H
 |some (.slice _),.aB _ xs none _,.raw (.slice none 0 0) |some (.slice _),.raw (.slice none 0 0),.aB _ xs none _=>cm.eF (!xs.isEmpty) (K (.bool neg) H)
 |some (.slice _),.all id,.raw (.slice none 0 0) |some (.slice _),.raw (.slice none 0 0),.all id=>match H.get id with
  |some (.arr _ _ xs _ _ em)=>match em with
   | .ex=>K (.bool (if neg then !xs.isEmpty else xs.isEmpty)) H
   |_=>cm.eF (!xs.isEmpty) (K (.bool neg) H)
  |_=>none
 |some (.slice _),.own _ _ len,.raw (.slice none 0 0) |some (.slice _),.raw (.slice none 0 0),.own _ _ len=>cm.eF (!Nat.beq len 0) (K (.bool neg) H)
 |some (.slice _),.raw (.slice none 0 0),.raw (.slice none 0 0)=>K (.bool (!neg)) H
 |some (.pointer _),.raw (.pointer none),.raw (.pointer none)=>K (.bool (!neg)) H
 |some (.pointer _),.ptr _ _,.raw (.pointer none) |some (.pointer _),.raw (.pointer none),.ptr _ _=>K (.bool neg) H
 |some (.pointer e),.ptr id o,.ptr id' o'=>bif Nat.beq id id' &&((P.info? e).map (·.size)).getD 0 !=0 &&(H.get id).isSome then K (.bool (if neg then !(Nat.beq o o') else Nat.beq o o')) H else none
 |some (.func _ _ _),.fn _ _ _,.raw .nilFunc |some (.func _ _ _),.raw .nilFunc,.fn _ _ _=>K (.bool neg) H
 |some (.func _ _ _),.raw .nilFunc,.raw .nilFunc=>K (.bool (!neg)) H
 |some (.map _ _),.raw (.map none),.raw (.map none)=>K (.bool (!neg)) H
 |some (.map _ _),.mp id,.raw (.map none)=>match H.get id with
  |some (.map _ _ _ _ _ xs em)=>bif em then K (.bool (if neg then !xs.isEmpty else xs.isEmpty)) H else K (.bool neg) H
  |_=>none
 |_,_,_=>none
def Sw (P:Program) (t:TypeId):TV->TV->Option Bool
 | .int k n,.int k' m=>match P.underlying t with
  |some (.int _)=>if k=k' then some (n==m) else none
  |_=>none
 | .byte a,.byte b=>match P.underlying t with
  |some (.int _)=>some (a==b)
  |_=>none
 | .bool a,.bool b=>match P.underlying t with
  |some .bool=>some (a==b)
  |_=>none
 | .str a,.str b=>match P.underlying t with
  |some .string=>some (a==b)
  |_=>none
 |_,_=>none
def Ps (P:Program):List Field->Nat->List TV->List TV->Option Bool
 | [],_,[],[]=>some true
 | f :: r, i, a :: as, b :: bs => bif f.name != "_" && Nat.beq f.offset i then
   match Sw P f.type a b,Ps P r (i+1) as bs with
   |some p,some q=>some (p &&q)
   |_,_=>none
  else none
 |_,_,_,_=>none
def vJ (P:Program) (H:GH) (neg:Bool) (t:TypeId) (cs ds:List TV) (K:TV->GH->Option Z):Option Z:=
 match P.underlying t with
 |some (.struct fs)=>bif !P.stoodInHeld t && !P.eqGuardType P.depth t then match Ps P fs.toList 0 cs ds with
   |some r=>K (.bool (bif neg then !r else r)) H
   |none=>none
  else none
 |_=>none
def Pk (cm:Cm Z) (P:Program) (H:GH) (op:BinOp) (t:TypeId) (a b:TV) (K:TV->GH->Option Z):Option Z:=
 match a,b with
 | .int k n,.int k' m=>match op with
  | .shl | .shr=>u6 cm H op k n m K
  |op=>if k=k' then OC cm H op k n m K else none
 | .byte a,.byte b=>match op with
  | .shl | .shr=>oX cm H op a b.toNat K
  |op=>GZ H op a b K
 | .byte a,.int _ m=>oX cm H op a m K
 | .int k n,.byte c=>u6 cm H op k n c.toNat K
 | .str a,.str b=>PB cm H op a b K
 | .bool a,.bool b=>match P.underlying t,op with
  |some .bool,.eql=>K (.bool (a==b)) H
  |some .bool,.neq=>K (.bool (!(a==b))) H
  |_,_=>none
 | .agg cs,.agg ds=>match op with
  | .eql=>vJ P H false t cs ds K
  | .neq=>vJ P H true t cs ds K
  |_=>none
 |a,b=>match op with
  | .eql=>vq cm P H false t a b K
  | .neq=>vq cm P H true t a b K
  |_=>none
def TY (H:GH) (op:UnOp) (a:TV) (K:TV->GH->Option Z):Option Z:=
 match a,op with
 | .bool b,.not=>K (.bool !b) H
 | .int k n,.neg=>K (wr k (0 - n)) H
 |_,_=>none
def mq (H:GH) (s:Sh):TV->Option (List s.ty)
 | .raw (.slice none 0 0)=>some []
 | .aB e xs _ _=>match Sh.same e s with
  |some ⟨h⟩=>some (fg h xs)
  |none=>none
 | .all id=>match H.get id with
  |some (.arr _ e xs _ _ _)=>match Sh.same e s with
   |some ⟨h⟩=>some (fg h xs)
   |none=>none
  |_=>none
 | .own id off len=>match H.get id with
  |some (.arr _ e xs _ _ _)=>match Sh.same e s with
   |some ⟨h⟩=>some (fg h ((xs.drop off).take len))
   |none=>none
  |_=>none
 | .str t=>match Sh.same .byte s with
  |some ⟨h⟩=>some (fg h t)
  |none=>none
 |_=>none
def oM (cm:Cm Z) (P:Program) (sh:bU) (H:GH) (argTypes:Array TypeId) (s x:TV) (K:TV->GH->Option Z):Option Z:=
 match argTypes[0]?,argTypes[1]? with
 |some t,some xt=>
  if isInt P xt then none else
  match cu P t with
  |some (e,i)=>match zeroOf P e,sh.ty e with
   |some z,some sp=>bif Nat.ble 1 i.size &&Nat.beq z.cells.size i.size &&Nat.beq sp.sz i.size then
    match mq H sp x with
    |some ys=>match s with
     | .raw (.slice none 0 0)=>cm.eF (Nat.ble (ys.length*(i.bytes+1)) roomy) (K (.all H.n) (H.new (.arr e sp ys true false .ex)))
     | .aB e' [] nl true=>cm.eF (Nat.ble (ys.length*(i.bytes+1)) roomy) (cm.Rr ys.isEmpty (K (.aB e' [] nl true) H) (K (.all H.n) (H.new (.arr e sp ys true false .no))))
     | .all id=>match H.get id with
      |some (.arr et e' xs w false em)=>bif Nat.beq et e then match Sh.same e' sp with
       |some ⟨h⟩=>cm.eF (Nat.ble ((xs.length+ys.length)*(i.bytes+1)) roomy) (K (.all H.n) ((H.del id).new (.arr e sp (fg h xs++ys) w false em)))
       |none=>none
       else none
      |_=>none
     | .own id off len=>match H.get id with
      |some (.arr et e' xs true false em)=>bif Nat.beq et e then match Sh.same e' sp with
       |some ⟨h⟩=>cm.eF (Nat.ble ((len+ys.length)*(i.bytes+1)) roomy && !(em.sY &&Nat.beq (len+ys.length) 0)) (K (.all H.n) ((H.del id).new (.arr e sp (fg h ((xs.drop off).take len)++ys) true false .no)))
       |none=>none
       else none
      |_=>none
     |_=>none
    |none=>none
    else none
   |_,_=>none
  |none=>none
 |_,_=>none
def DH (y:Nat):TV->Option (Bool×Nat)
 | .int _ i=>some (ak 0 i &&ak i y,i.toNat)
 |_=>none
def tB (y d:Nat):Option TV->Option (Bool×Nat)
 |some v=>DH y v
 |none=>some (true,d)
def kK (cm:Cm Z) (len:Nat) (lo hi:Option TV) (K:Nat->Nat->Option Z):Option Z:=
 match tB len len hi with
 |some (c,h)=>cm.eF c (match tB h 0 lo with
  |some (d,l)=>cm.eF d (K l h)
  |none=>none)
 |none=>none
def ED (cm:Cm Z) (P:Program) (H:GH) (t:TypeId) (x:TV) (lo hi mx:Option TV) (K:TV->GH->Option Z):Option Z:=
 match P.underlying t,x,mx with
 |some .string,.str s,none=>kK cm s.length lo hi fun l h=>K (.str ((s.drop l).take (h - l))) H
 |some (.slice e),.raw (.slice none 0 0),none=>match P.info? e with
  |some _=>kK cm 0 lo hi fun _ _=>K SK H
  |none=>none
 |some (.slice e),.aB s xs nl _,none=>match P.info? e with
  |some i=>bif Nat.beq s.sz i.size then kK cm xs.length lo hi fun l h=>K (.aB s ((xs.drop l).take (h - l)) nl false) H else none
  |none=>none
 |some (.slice e),.all id,none=>match P.info? e,H.get id with
  |some i,some (.arr _ s xs _ _ _)=>bif Nat.beq s.sz i.size then kK cm xs.length lo hi fun l h=>K (.own id l (h - l)) H else none
  |_,_=>none
 |some (.slice e),.own id off len,none=>match P.info? e,H.get id with
  |some i,some (.arr _ s _ _ _ _)=>bif Nat.beq s.sz i.size then kK cm len lo hi fun l h=>K (.own id (off+l) (h - l)) H else none
  |_,_=>none
 |some (.slice e),.aB s xs nl _,some (.int _ (.ofNat 0))=>match P.info? e,lo,hi with
  |some i,none,some (.int _ (.ofNat 0))=>bif Nat.beq s.sz i.size then
    match nl with
    |some false=>K (.aB s [] nl true) H
    |_=>cm.eF (!xs.isEmpty) (K (.aB s [] none true) H)
   else none
  |_,_,_=>none
 |_,_,_=>none
def MQ (P:Program) (H:GH) (t:TypeId) (x:TV) (K:TV->GH->Option Z):Option Z:=
 match P.underlying t,x with
 |some .string,.str s=>K (.int .i64 s.length) H
 |some (.array n _),_=>K (.int .i64 n) H
 |some (.slice _),.raw (.slice none 0 0)=>K (.int .i64 0) H
 |some (.slice _),.aB _ xs _ _=>K (.int .i64 xs.length) H
 |some (.slice _),.all id=>match H.get id with
  |some (.arr _ _ xs _ _ _)=>K (.int .i64 xs.length) H
  |_=>none
 |some (.slice _),.own _ _ len=>K (.int .i64 len) H
 |some (.map _ _),.raw (.map none)=>K (.int .i64 0) H
 |some (.map _ _),.mp id=>match H.get id with
  |some (.map _ _ _ _ _ xs _)=>K (.int .i64 xs.length) H
  |_=>none
 |_,_=>none
def vv (cm:Cm Z) (i:Int):Nat->(Nat->Option Z)->Option Z
 |0,_=>none
 |n+1,K=>cm.Rr (i==n) (K n) (vv cm i n K)
def Ua:TV->TV
 | .byte c=> .int .u8 c.toNat
 |t=>t
def eP (cm:Cm Z) (P:Program) (sh:bU) (H:GH) (t:TypeId) (x ix:TV) (K:TV->GH->Option Z):Option Z:=
 match P.underlying t,x,ix with
 |some (.array n e),.ptr id off,.int _ i=>match P.info? e,H.get id with
  |some inf,some (.cells _ _ _)=>bif Nat.ble n 256 then vv cm i n fun j=>K (.ptr id (off+j*inf.size)) H else none
  |some inf,some (.arr _ s _ _ _ _)=>bif Nat.beq s.sz inf.size &&Nat.beq off 0 then cm.eF (ak 0 i &&aD i n) (K (.iO id i.toNat 0) H) else none
  |some inf,none=>match sh.tb id with
   |some T=>bif Nat.beq T.e.sz inf.size &&Nat.beq off 0 &&Nat.blt id bI then cm.eF (ak 0 i &&aD i n) (cm.opt T.xs[i.toNat]? fun y=>K (.nL (T.e.cV y)) H) else none
   |none=>none
  |_,_=>none
 |some (.slice e),.aB s xs _ _,.int _ i=>match P.info? e with
  |some inf=>bif Nat.beq s.sz inf.size then cm.eF (ak 0 i) (cm.opt xs[i.toNat]? fun y=>K (.nL (s.cV y)) H) else none
  |none=>none
 |some (.slice e),.all id,.int _ i=>match P.info? e,H.get id with
  |some inf,some (.arr _ s xs _ _ _)=>bif Nat.beq s.sz inf.size then cm.eF (ak 0 i &&aD i xs.length) (K (.iO id i.toNat 0) H) else none
  |_,_=>none
 |some (.slice e),.own id off len,.int _ i=>match P.info? e,H.get id with
  |some inf,some (.arr _ s _ _ _ _)=>bif Nat.beq s.sz inf.size then cm.eF (ak 0 i &&aD i len) (K (.iO id (off+i.toNat) 0) H) else none
  |_,_=>none
 |_,_,_=>none
def Ak (cm:Cm Z) (P:Program) (H:GH) (t:TypeId) (x ix:TV) (K:TV->GH->Option Z):Option Z:=
 match P.underlying t,x,ix with
 |some .string,.str s,.int _ i=>cm.eF (ak 0 i) (cm.opt s[i.toNat]? fun c=>K (.byte c) H)
 |some (.array n e),.agg cs,.int _ i=>match P.info? e with
  |some inf=>bif Nat.ble n 256 then vv cm i n fun j=>match eO P e (cs.drop (j*inf.size)) with
    |some v=>K v H
    |none=>none
   else none
  |none=>none
 |_,_,_=>none
def iD (P:Program) (H:GH) (s:TypeId) (x:TV) (f:Nat) (K:TV->GH->Option Z):Option Z:=
 match P.underlying s with
 |some (.struct fs)=>match fs[f]? with
  |some fd=>match P.info? fd.type with
   |some i=>bif Nat.beq i.size 0 then none else match x with
    | .ptr id off=>K (.ptr id (off+fd.offset)) H
    | .nL cs=>bif Nat.ble fd.offset cs.length then K (.nL (cs.drop fd.offset)) H else none
    | .iO id j off=>K (.iO id j (off+fd.offset)) H
    |_=>none
   |none=>none
  |none=>none
 |_=>none
def yO (P:Program) (H:GH) (t:TypeId) (x:TV) (f:Nat) (K:TV->GH->Option Z):Option Z:=
 match P.underlying t,x with
 |some (.struct fs),.agg cs=>match fs[f]? with
  |some fd=>match eO P fd.type (cs.drop fd.offset) with
   |some v=>K v H
   |none=>none
  |none=>none
 |_,_=>none
def ot (cm:Cm Z) (P:Program) (sh:bU) (H:GH) (t:TypeId) (eq:Bool) (l c:TV) (K:TV->GH->Option Z):Option Z:=
 match cu P t,l,c with
 |some (e,i),.int .i64 l,.int .i64 c=>
  match zeroOf P e,sh.ty e with
  |some z,some s=>bif Nat.beq z.cells.size i.size &&z.cells.toList.all fQ &&Nat.beq s.sz i.size then
   match s.jE (z.cells.toList.map jW) with
   |some zz=>cm.eF (ak 0 l &&ak l c &&ak (c*(i.bytes+1)) roomy) (K (bif eq then .all H.n else .own H.n 0 l.toNat) (H.new (.arr e s (List.replicate c.toNat zz) true false .no)))
   |none=>none
   else none
  |_,_=>none
 |_,_,_=>none
def ru (P:Program) (H:GH) (e:TypeId) (x:TV) (K:TV->GH->Option Z):Option Z:=
 match P.underlying e,x with
 |some (.int .u8),x=>match mq H .byte x with
  |some s=>K (.str s) H
  |none=>none
 |_,_=>none
def oT (P:Program) (H:GH) (src dst:TypeId) (x:TV) (K:TV->GH->Option Z):Option Z:=
 match P.underlying src,P.underlying dst with
 |some (.int _),some (.int k)=>match x with
  | .int _ n=>bif (match k with | .u8=>true |_=>false) then K (.byte (UInt8.ofNat (IntKind.u8.wrap n).toNat)) H else K (wr k n) H
  | .byte c=>bif (match k with | .u8=>true |_=>false) then K (.byte c) H else K (wr k c.toNat) H
  |_=>none
 |some (.int _),some .string=>match x with
  | .int _ n=>K (.str (bl (Utf8.encode n))) H
  | .byte c=>K (.str (bl (Utf8.encode c.toNat))) H
  |_=>none
 |some .string,some .string=>match x with
  | .str s=>K (.str s) H
  |_=>none
 |some .string,some (.slice e)=>match P.underlying e,x with
  |some (.int .u8),.str s=>K (.aB .byte s (some false) false) H
  |_,_=>none
 |some (.slice e),some .string=>match x with
  | .str _=>none
  |x=>ru P H e x K
 |some (.pointer t),some .unsafePointer=>match x with
  | .ptr id off=>match H.get id with
   |some (.cells _ cs _)=>bif !Nat.beq (P.cellsOf t) 0 &&Nat.blt off cs.length then K (.ptr id off) H else none
   |_=>none
  | .raw (.pointer none)=>K x H
  |_=>none
 |some .unsafePointer,some (.pointer u)=>match x with
  | .ptr id off=>match H.get id with
   |some (.cells et cs true)=>bif !Nat.beq (P.cellsOf u) 0 &&liesAt P P.depth et (cs.length / P.cellsOf et) off u 1 then K (.ptr id off) H else none
   |_=>none
  | .raw (.pointer none)=>K x H
  |_=>none
 |_,_=>none
def F3 (P:Program) (e:TypeId) (ge:Bool) (es:Sh):Option es.ty:=
 match zeroOf P e with
 |some z=>bif (match z with | .agg _=>ge |_=> !ge) &&z.cells.toList.all fQ then es.jE (z.cells.toList.map jW) else none
 |none=>none
def Af (P:Program) (sh:bU) (H:GH) (t:TypeId) (x k:TV) (ok:Bool) (K:TV->GH->Option Z):Option Z:=
 match pr P t,x with
 |some (kt,e),.mp id=>match H.get id with
  |some (.map kt' gk ge ks es xs _)=>bif Nat.beq kt kt' then
   match M4 gk ks k,F3 P e ge es with
   |some kx,some z=>K (bif ok then .ja [P3 ge es (aW ks xs kx z),.bool (IY ks xs kx)] else P3 ge es (aW ks xs kx z)) H
   |_,_=>none
   else none
  |_=>none
 |some (kt,e),.raw (.map none)=>match sh.ty kt,sh.ty e with
  |some ks,some es=>bif ni P kt (Tf k) ks then
   match M4 (Tf k) ks k,gI P e with
   |some _,some ge=>match F3 P e ge es with
    |some z=>K (bif ok then .ja [P3 ge es z,.bool false] else P3 ge es z) H
    |none=>none
   |_,_=>none
   else none
  |_,_=>none
 |_,_=>none
def zm (cm:Cm Z) (P:Program) (H:GH) (t:TypeId) (m k v:TV) (K:TV->GH->Option Z):Option Z:=
 match pr P t,m with
 |some (kt,_),.mp id=>match ik v.cells H with
  |some (cs,H)=>match H.get id with
   |some (.map kt' gk ge ks es xs em)=>bif Nat.beq kt kt' &&(bif ge then Tf v else v.one) then
    match M4 gk ks k,es.jE cs with
    |some kx,some y=>cm.eF (!(em &&xs.isEmpty)) (K .undef (H.put id (.map kt' gk ge ks es (de ks xs kx y) em)))
    |_,_=>none
    else none
   |_=>none
  |none=>none
 |_,_=>none
def lK (P:Program) (sh:bU) (H:GH) (t:TypeId) (r:Option TV) (K:TV->GH->Option Z):Option Z:=
 match pr P t with
 |some (kt,e)=>match sh.ty kt,sh.ty e,gI P kt,gI P e with
  |some ks,some es,some gk,some ge=>bif (match r with
    |none=>true
    |some (.int _ _)=>true
    |_=>false) &&ni P kt gk ks then K (.mp H.n) (H.new (.map kt gk ge ks es [] false)) else none
  |_,_,_,_=>none
 |none=>none
def Ea (P:Program) (H:GH) (t:TypeId) (x:TV) (K:TV->GH->Option Z):Option Z:=
 match P.underlying t,x with
 |some .string,.str s=>K (.ptr H.n 0) (H.new (.iter s 0))
 |_,_=>none
def LD (cm:Cm Z) (H:GH) (it:TV) (K:TV->GH->Option Z):Option Z:=
 match it with
 | .ptr r 0=>match H.get r with
  |some (.iter s pos)=>cm.Rr (Nat.blt pos s.length)
    (K (.ja [.bool true,.int .i64 pos,.int .i32 (Utf8.decode (ba s) pos).1]) (H.put r (.iter s (pos+(Utf8.decode (ba s) pos).2))))
    (K (.ja [.bool false]) H)
  |_=>none
 |_=>none
def nB (P:Program) (H:GH) (t:TypeId) (x:TV) (K:TV->GH->Option Z):Option Z:=none
def ld (P:Program) (H:GH) (x:TV) (asserted:TypeId) (ok:Bool) (K:TV->GH->Option Z):Option Z:=none
def FB (H:GH) (x:TV) (K:TV->GH->Option Z):Option Z:=none
def LM {α:Type} (v:TV) (p:Value->α) (k:α):α:=match v with
 | .J6 w=>p w
 |_=>k
def pN (H:GH) (tp:TV) (i:Nat) (K:TV->GH->Option Z):Option Z:=
 match tp with
 | .ja vs=>match vs[i]? with
  |some v=>K v H
  |none=>none
 |_=>none
def F4 (H:GH) (c a b:TV) (K:TV->GH->Option Z):Option Z:=
 match c with
 | .bool t=>match a,b with
  | .bool x,.bool y=>K (.bool (bif t then x else y)) H
  |a,b=>@Bool.rec (fun _=>Option Z) (K b H) (K a H) t
 |_=>none
end
end Go.Gv
