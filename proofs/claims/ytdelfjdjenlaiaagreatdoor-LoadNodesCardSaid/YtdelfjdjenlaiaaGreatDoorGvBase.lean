/- The pure evaluator (the first part): shapes, plain values, a heap of few named objects, operations. Lists that nobody writes any more are plain Lean lists. -/
import Derived.Test.YtdelfjdjenlaiaaGreatDoorIvEval
set_option linter.unusedSimpArgs false
set_option linter.unusedVariables false
namespace Go.Gv
open Go Go.Iv
noncomputable section
inductive Sh where
 |int (k:IntKind)
 |byte
 |bool
 |str
 |cons (a b:Sh)
 |aJ (e:Sh)
abbrev Sh.ty:Sh->Type
 | .int _=>Int
 | .byte=>UInt8
 | .bool=>Bool
 | .str=>List UInt8
 | .cons a b=>a.ty×b.ty
 | .aJ e=>List e.ty
def Sh.sz:Sh->Nat
 | .cons a b=>a.sz+b.sz
 |_=>1
def Sh.same:(a b:Sh)->Option (PLift (a=b))
 | .int k,.int k'=>if h:k=k' then some ⟨by rw [h]⟩ else none
 | .byte,.byte=>some ⟨rfl⟩
 | .bool,.bool=>some ⟨rfl⟩
 | .str,.str=>some ⟨rfl⟩
 | .cons a b,.cons a' b'=>match Sh.same a a',Sh.same b b' with
  |some ⟨h⟩,some ⟨h'⟩=>some ⟨by rw [h,h']⟩
  |_,_=>none
 | .aJ e,.aJ e'=>match Sh.same e e' with
  |some ⟨h⟩=>some ⟨by rw [h]⟩
  |none=>none
 |_,_=>none
def fM {a b:Sh} (h:a=b) (xs:List a.ty):List b.ty:=h▸xs
inductive TV where
 |int (k:IntKind) (n:Int)
 |byte (c:UInt8)
 |bool (b:Bool)
 |str (s:List UInt8)
 |agg (cs:List TV)
 |jj (vs:List TV)
 |aC (e:Sh) (xs:List e.ty) (nl:Option Bool) (cl:Bool)
 |all (id:Nat)
 |own (id off len:Nat)
 |ptr (id off:Nat)
 |oD (cs:List TV)
 |iX (id i off:Nat)
 |fn (f:FuncId) (first captured:List TV)
 |mX (l:Nat)
 |mp (id:Nat)
 |raw (v:Value)
 |undef
 |HW (v:Value)
instance:Inhabited TV:=⟨.undef⟩
def TV.cells:TV->List TV
 | .agg cs=>cs
 |v=> [v]
def TV.one:TV->Bool
 | .agg _ | .jj _ | .undef | .HW _=>false
 | .raw v=>Iv.one v
 |_=>true
def V0:TV:= .raw (.slice none 0 0)
def Sh.dc:(s:Sh)->s.ty->List TV
 | .int k,n=> [.int k n]
 | .byte,c=> [.byte c]
 | .bool,b=> [.bool b]
 | .str,s=> [.str s]
 | .cons a b,x=>a.dc x.1++b.dc x.2
 | .aJ e,xs=> [.aC e xs none false]
def ofInt (k:IntKind):List TV->Option (Int×List TV)
 | .int k' n::r=>if k=k' then some (n,r) else none
 |_=>none
def CH:List TV->Option (UInt8×List TV)
 | .byte c::r=>some (c,r)
 |_=>none
def ofBool:List TV->Option (Bool×List TV)
 | .bool b::r=>some (b,r)
 |_=>none
def ofStr:List TV->Option (List UInt8×List TV)
 | .str s::r=>some (s,r)
 |_=>none
def Ae (e:Sh):List TV->Option (List e.ty×List TV)
 | .aC e' xs _ _::r=>match Sh.same e' e with
  |some ⟨h⟩=>some (fM h xs,r)
  |none=>none
 | .raw (.slice none 0 0)::r=>some ([],r)
 |_=>none
def Sh.of:(s:Sh)->List TV->Option (s.ty×List TV)
 | .int k,l=>ofInt k l
 | .byte,l=>CH l
 | .bool,l=>ofBool l
 | .str,l=>ofStr l
 | .cons a b,l=>match a.of l with
  |some (x,l)=>match b.of l with
   |some (y,l)=>some ((x,y),l)
   |none=>none
  |none=>none
 | .aJ e,l=>Ae e l
def Sh.jb (s:Sh) (l:List TV):Option s.ty:=
 match s.of l with
 |some (x,[])=>some x
 |_=>none
def zU:Sh->Bool
 | .cons a b=>zU a &&zU b
 | .aJ _=>false
 |_=>true
def Iy:Sh->Nat->Sh->Bool
 | .cons a b,no,ne=>bif Nat.blt no a.sz then Iy a no ne &&zU b else zU a &&Iy b (no - a.sz) ne
 | .aJ e,0,ne=>(Sh.same e ne).isSome
 |_,_,_=>false
def aZ:(e:Sh)->Nat->(ne:Sh)->e.ty->List ne.ty
 | .cons a b,no,ne,x=>@Bool.rec (fun _=>List ne.ty) (aZ b (no - a.sz) ne x.2) (aZ a no ne x.1) (Nat.blt no a.sz)
 | .aJ e,_,ne,x=>match Sh.same e ne with
  |some ⟨h⟩=>fM h x
  |none=> []
 |_,_,_,_=> []
def di:(e:Sh)->Nat->(ne:Sh)->e.ty->List ne.ty->e.ty
 | .cons a b,no,ne,x,ys=>@Bool.rec (fun _=>a.ty×b.ty) (x.1,di b (no - a.sz) ne x.2 ys) (di a no ne x.1 ys,x.2) (Nat.blt no a.sz)
 | .aJ e,_,ne,x,ys=>match Sh.same ne e with
  |some ⟨h⟩=>fM h ys
  |none=>x
 |_,_,_,x,_=>x
def Sh.Bm:(s:Sh)->s.ty->s.ty->Bool
 | .int _,a,b=>((a:Int)==b)
 | .byte,a,b=>((a:UInt8)==b)
 | .bool,a,b=>((a:Bool)==b)
 | .str,a,b=>((a:List UInt8)==b)
 | .cons p q,a,b=>p.Bm a.1 b.1 &&q.Bm a.2 b.2
 | .aJ _,_,_=>false
def gT (k:Sh) {β:Type}:List (k.ty×β)->k.ty->Option β
 | [],_=>none
 |p::r,x=>bif k.Bm x p.1 then some p.2 else gT k r x
def nz (k:Sh) {β:Type} (l:List (k.ty×β)) (x:k.ty) (d:β):β:=(gT k l x).getD d
def E8 (k:Sh) {β:Type} (l:List (k.ty×β)) (x:k.ty):Bool:=(gT k l x).isSome
def iV (k:Sh) {β:Type}:List (k.ty×β)->k.ty->β->List (k.ty×β)
 | [],x,y=> [(x,y)]
 |p::r,x,y=>bif k.Bm x p.1 then (x,y)::r else p::iV k r x y
def iC:Value->TV
 | .int .u8 n=> .byte (UInt8.ofNat n.toNat)
 | .int k n=> .int k n
 | .bool b=> .bool b
 | .string s=> .str (bl s)
 |v=> .raw v
def fE:Value->Bool
 | .int .u8 (.ofNat n)=>Nat.ble n 255
 | .int .u8 _=>false
 |_=>true
def conv (v:Value):TV:=
 bif free v then match v with
  | .agg cs=>bif cs.toList.all fE then .agg (cs.toList.map iC) else .undef
  | .tuple _ | .iface _ _=> .undef
  |v=>bif fE v then iC v else .undef
 else .undef
inductive Jl where
 |e
 |c (k:Nat) (v:TV) (r:Jl)
structure GE where
 loc:Jl
 tmp:Jl
def eU:Jl->Nat->TV
 | .e,_=> .undef
 | .c k v r,t=>bif Nat.beq k t then v else eU r t
def mZ:Jl->Nat->TV->Jl
 | .e,d,v=> .c d v .e
 | .c k u r,d,v=>bif Nat.beq k d then .c d v r else .c k u (mZ r d v)
def fq (fi:FI) (E:GE) (t:Nat):TV:=
 match cls fi t with
 | .out=> .undef
 | .loc=>eU E.loc t
 | .tmp=>eU E.tmp t
def c7 (fi:FI) (d:Nat) (v:TV) (E:GE):GE:=
 match cls fi d with
 | .out=>E
 | .loc=>⟨mZ E.loc d v,E.tmp⟩
 | .tmp=>⟨E.loc,.c d v E.tmp⟩
def GE.reset (E:GE):GE:=⟨E.loc,.e⟩
def cz (fi:FI) (E:GE) (dst:Option Tmp) (v:TV):GE:=
 match dst with
 |some d=>c7 fi d v E
 |none=>E
inductive Em where
 |ex |any |no
 deriving DecidableEq
def Em.r9:Em->Bool
 | .no=>false
 |_=>true
def Em.le:Em->Em->Bool
 | .ex,.ex=>true
 | .no,.no=>true
 |_,.any=>true
 |_,_=>false
instance:Coe Bool Em:=⟨fun b=>bif b then .ex else .no⟩
inductive bI where
 |cells (et:TypeId) (cs:List TV) (wr:Bool)
 |arr (et:TypeId) (e:Sh) (xs:List e.ty) (wr fz:Bool) (em:Em)
 |iter (s:List UInt8) (pos:Nat)
 |nest (et:TypeId) (e:Sh) (no:Nat) (net:TypeId) (ne:Sh) (xs:List e.ty) (em:Em) (ho:Option (Nat×Nat×e.ty))
 |map (kt:TypeId) (gk ge:Bool) (k e:Sh) (xs:List (k.ty×e.ty)) (em:Bool)
 |gD (kt:TypeId) (gk:Bool) (k:Sh) (net:TypeId) (ne:Sh) (xs:List (k.ty×List ne.ty)) (ho:Option (k.ty×Nat))
 |loop (bL:Nat) (st:LoopState) (pd:Option Code) (fi:FI) (E:GE) (ps:List Tmp) (dW body:Code)
structure GH where
 t:Tr (Nat×bI)
 n:Nat
 ck:Nat
def GH.get (H:GH) (b:Nat):Option bI:=match H.t.lf b with
 |some (_,o)=>some o
 |none=>none
def GH.aT (H:GH) (b:Nat):Option Nat:=match H.t.lf b with
 |some (s,_)=>some s
 |none=>none
def GH.put (H:GH) (b:Nat) (o:bI):GH:=⟨Tr.oP (some (H.ck,o)) (Nat.succ b) H.t b,H.n,Nat.succ H.ck⟩
def GH.del (H:GH) (b:Nat):GH:=⟨Tr.oP none (Nat.succ b) H.t b,H.n,H.ck⟩
def GH.new (H:GH) (o:bI):GH:=⟨Tr.oP (some (H.ck,o)) (Nat.succ H.n) H.t H.n,Nat.succ H.n,Nat.succ H.ck⟩
variable {β:Type}
structure Cm (β:Type) where
 ec:Bool->Option β->Option β
 Vu:Bool->Option β->Option β->Option β
 opt:{α:Type}->Option α->(α->Option β)->Option β
def dR:Cm β:=⟨fun b r=>bif b then r else none,fun b t e=>bif b then t else e,fun o k=>o.bind k⟩
structure Cx (β:Type) where
 cm:Cm β
 jn:{α:Type}->(Cm α->Option α)->(α->Option β)->Option β
def stx:Cx β:=⟨dR,fun f k=>(f dR).bind k⟩
structure Tb where
 e:Sh
 xs:List e.ty
structure cw where
 ty:TypeId->Option Sh
 tb:Nat->Option Tb
 zt:List (TypeId×Nat×TypeId):= []
 ZP:List TypeId:= []
def An:List (TypeId×Nat×TypeId)->TypeId->Option (Nat×TypeId)
 | [],_=>none
 |(e,x)::r,k=>bif Nat.beq e k then some x else An r k
def RH:List (Nat×Tb)->Nat->Option Tb
 | [],_=>none
 |(g,T)::r,k=>bif Nat.beq g k then some T else RH r k
def tB (H:GH):TV->Option (TV×GH)
 | .all id=>match H.get id with
  |some (.arr et e xs wr fz em)=>some (.aC e xs none false,bif fz then H else H.put id (.arr et e xs wr true em))
  |some (.nest et e _ _ _ xs em none)=>some (.aC e xs none false,H.put id (.arr et e xs true true em))
  |_=>none
 | .own id off len=>match H.get id with
  |some (.arr et e xs wr fz em)=>some (.aC e ((xs.drop off).take len) none false,bif fz then H else H.put id (.arr et e xs wr true em))
  |_=>none
 | .aC e xs nl cl=>some (.aC e xs nl cl,H)
 | .int k n=>some (.int k n,H)
 | .byte c=>some (.byte c,H)
 | .bool b=>some (.bool b,H)
 | .str s=>some (.str s,H)
 | .raw (.slice none 0 0)=>some (V0,H)
 |_=>none
def iv:List TV->GH->Option (List TV×GH)
 | [],H=>some ([],H)
 |v::r,H=>match tB H v with
  |some (v,H)=>match iv r H with
   |some (r,H)=>some (v::r,H)
   |none=>none
  |none=>none
def bW (fi:FI) (E:GE):Operand->TV
 | .tmp t=>fq fi E t
 | .const v=>conv v
 | .global g=>bif Nat.ble (Nat.succ g) bQ then .ptr g 0 else .undef
 | .func f=> .fn f [] []
def dU:List TV->Nat->List TV->List TV
 |cs,_,[]=>cs
 |cs,off,v::vs=>dU (cs.set off v) (off+1) vs
def fS (P:Program) (t:TypeId):Sh->Bool
 | .int k=>match P.underlying t with
  |some (.int k')=>k==k'
  |_=>false
 | .byte=>match P.underlying t with
  |some (.int .u8)=>true
  |_=>false
 | .bool=>match P.underlying t with
  |some .bool=>true
  |_=>false
 | .str=>match P.underlying t with
  |some .string=>true
  |_=>false
 |_=>false
def qX (P:Program):List Field->Nat->Sh->Bool
 | [f], i, s => f.name != "_" && Nat.beq f.offset i && fS P f.type s
 | f :: q :: r, i, .cons a b => f.name != "_" && Nat.beq f.offset i && fS P f.type a && qX P (q :: r) (i + 1) b
 |_,_,_=>false
def nD (P:Program) (kt:TypeId) (g:Bool) (k:Sh):Bool:=
 match P.underlying kt with
 |some (.struct fs)=>g && !P.stoodInHeld kt &&qX P fs.toList 0 k
 |_=> !g &&fS P kt k
def XV:TV->Bool
 | .agg _=>true
 |_=>false
def Sf (g:Bool) (k:Sh) (t:TV):Option k.ty:=bif (bif g then XV t else t.one) then k.jb t.cells else none
def Ty (g:Bool) (s:Sh) (x:s.ty):TV:=bif g then .agg (s.dc x) else (s.dc x).headD .undef
def fN (P:Program) (t:TypeId) (cs:List TV):Option TV:=
 match eI P t with
 |some true=>match P.info? t with
  |some i=>bif Nat.ble i.size cs.length then some (.agg (cs.take i.size)) else none
  |none=>none
 |some false=>match cs with
  |v::_=>some v
  | []=>none
 |none=>none
def nk (cm:Cm β) (P:Program) (H:GH) (t:TypeId) (a:TV) (K:TV->GH->Option β):Option β:=
 match a with
 | .ptr id off=>match H.get id with
  |some (.cells _ cs _)=>bif Nat.ble off cs.length then match fN P t (cs.drop off) with
   |some v=>K v H
   |none=>none
   else none
  |_=>none
 | .oD cs=>match fN P t cs with
  |some v=>K v H
  |none=>none
 | .iX id i off=>match H.get id with
  |some (.arr _ e xs _ _ _)=>bif Nat.ble off e.sz then cm.opt xs[i]? fun x=>match fN P t ((e.dc x).drop off) with
   |some v=>K v H
   |none=>none
   else none
  |_=>none
 |_=>none
def Ce (cm:Cm β) (P:Program) (H:GH) (t:TypeId) (a v:TV) (K:TV->GH->Option β):Option β:=
 match P.info? t with
 |some i=>
  bif Nat.beq v.cells.length i.size &&v.cells.all TV.one then
   match a with
   | .ptr id off=>match H.get id with
    |some (.cells et cs true)=>bif Nat.ble (off+v.cells.length) cs.length && !v.cells.isEmpty then K .undef (H.put id (.cells et (dU cs off v.cells) true)) else none
    |_=>none
   | .iX id i off=>match iv v.cells H with
    |some (vs,H)=>match H.get id with
     |some (.arr et e xs true false em)=>cm.opt xs[i]? fun x=>
      bif Nat.ble (off+vs.length) e.sz && !vs.isEmpty then
       match e.jb (dU (e.dc x) off vs) with
       |some y=>K .undef (H.put id (.arr et e (xs.set i y) true false em))
       |none=>none
      else none
     |_=>none
    |none=>none
   |_=>none
  else none
 |none=>none
def yn (P:Program) (H:GH) (e:TypeId) (K:TV->GH->Option β):Option β:=
 match zeroOf P e with
 |some z=>bif z.cells.toList.all fE then K (.ptr H.n 0) (H.new (.cells e (z.cells.toList.map iC) true)) else none
 |none=>none
def TV.ok:TV->Bool
 | .undef | .jj _=>false
 | .raw v=>Oh v &&(match v with
  | .agg _=>false
  |_=>true)
 |_=>true
def LJ (H:GH) (e:TypeId) (v:TV) (K:TV->GH->Option β):Option β:=
 bif v.ok then K (.ptr H.n 0) (H.new (.cells e v.cells true)) else none
def Wu (H:GH) (e:TypeId) (v:TV) (K:TV->GH->Option β):Option β:=
 match v with
 | .all id=>match iv [.all id] H with
  |some ([v],H)=>LJ H e v K
  |_=>none
 |v=>LJ H e v K
def qf (place:Nat->Option (Nat×Nat)):List TV->List (Nat×TV)->Option (List TV)
 |cells,[]=>some cells
 |cells,(i,v)::rest=>match place i with
  |none=>none
  |some (off,size)=>bif Nat.beq v.cells.length size &&Nat.ble (off+v.cells.length) cells.length then qf place (dU cells off v.cells) rest else none
def H5 (P:Program) (H:GH) (t:TypeId) (ps:List (Nat×TV)) (K:TV->GH->Option β):Option β:=
 bif ps.all (fun p=>p.2.ok) then
  match zeroOf P t with
  |some z=>bif z.cells.toList.all fE then
   match P.underlying t with
   |some (.struct fs)=>match placesOf P fs.toList with
    |some places=>match qf (fun i=>places[i]?) (z.cells.toList.map iC) ps with
     |some cells=>K (.agg cells) H
     |none=>none
    |none=>none
   |some (.array _ e)=>match P.info? e with
    |some i=>match qf (fun j=>some (j*i.size,i.size)) (z.cells.toList.map iC) ps with
     |some cells=>K (.agg cells) H
     |none=>none
    |none=>none
   |_=>none
   else none
  |none=>none
 else none
def rowsOf (s:Sh):Nat->List TV->Option (List s.ty)
 |0,[]=>some []
 |0,_=>none
 |n+1,l=>match s.of l with
  |some (x,r)=>match rowsOf s n r with
   |some xs=>some (x::xs)
   |none=>none
  |none=>none
def Oq (z:List TV):Nat->List TV
 |0=> []
 |n+1=>z++Oq z n
def fl (P:Program) (sh:cw) (H:GH) (t:TypeId) (len:Nat) (ps:List (Nat×TV)) (K:TV->GH->Option β):Option β:=
 match bK P t with
 |some (e,i)=>
  bif Nat.ble (len*(i.size+1)) (2^24) &&ps.all (fun p=>p.2.ok) then
   match zeroOf P e,sh.ty e with
   |some z,some s=>bif Nat.beq z.cells.size i.size &&z.cells.toList.all fE &&Nat.beq s.sz i.size then
    match qf (fun j=>some (j*i.size,i.size)) (Oq (z.cells.toList.map iC) len) ps with
    |some cells=>match iv cells H with
     |some (cells,H)=>match rowsOf s len cells with
      |some xs=>K (.all H.n) (H.new (.arr e s xs true false .no))
      |none=>none
     |none=>none
    |none=>none
    else none
   |_,_=>none
  else none
 |none=>none
def VT (H:GH) (x:TV) (K:TV->GH->Option β):Option β:=
 match x with
 | .ptr id off=>K (.ptr id off) H
 | .oD cs=>K (.oD cs) H
 | .iX id i off=>K (.iX id i off) H
 | .fn f a c=>K (.fn f a c) H
 | .mX l=>K (.mX l) H
 |_=>none
def wr (k:IntKind) (n:Int):TV:= .int k (k.wrap n)
def A2 (op:BinOp) (k:IntKind) (x y:Int):Option Int:=
 let a:=BitVec.ofInt k.bits x
 let b:=BitVec.ofInt k.bits y
 match op with
 | .and=>some (k.wrap (a &&&b).toNat)
 | .or=>some (k.wrap (a |||b).toNat)
 | .xor=>some (k.wrap (a^^^b).toNat)
 | .andNot=>some (k.wrap (a &&&~~~b).toNat)
 |_=>none
def T9 (cm:Cm β) (H:GH) (op:BinOp) (k:IntKind) (n m:Int) (K:TV->GH->Option β):Option β:=
 match op with
 | .eql=>K (.bool (n==m)) H
 | .neq=>K (.bool (n !=m)) H
 | .lss=>K (.bool (aR n m)) H
 | .leq=>K (.bool (aQ n m)) H
 | .gtr=>K (.bool (aR m n)) H
 | .geq=>K (.bool (aQ m n)) H
 | .add=>K (wr k (n+m)) H
 | .sub=>K (wr k (n - m)) H
 | .mul=>K (wr k (n*m)) H
 | .quo=>cm.ec (m !=0) (K (wr k (n.tdiv m)) H)
 | .rem=>cm.ec (m !=0) (K (.int k (n.tmod m)) H)
 |op=>match A2 op k n m with
  |some r=>K (.int k r) H
  |none=>none
def vy (cm:Cm β) (H:GH) (op:BinOp) (k:IntKind) (x y:Int) (K:TV->GH->Option β):Option β:=
 cm.ec (aQ 0 y) (match op with
  | .shl=>K (wr k (x*2^(min y.toNat k.bits))) H
  | .shr=>K (.int k (x.fdiv (2^(min y.toNat k.bits)))) H
  |_=>none)
def KC (H:GH) (op:BinOp) (a b:UInt8) (K:TV->GH->Option β):Option β:=
 match op with
 | .eql=>K (.bool (a==b)) H
 | .neq=>K (.bool (a !=b)) H
 | .lss=>K (.bool (Nat.blt a.toNat b.toNat)) H
 | .leq=>K (.bool (Nat.ble a.toNat b.toNat)) H
 | .gtr=>K (.bool (Nat.blt b.toNat a.toNat)) H
 | .geq=>K (.bool (Nat.ble b.toNat a.toNat)) H
 | .add=>K (.byte (a+b)) H
 | .sub=>K (.byte (a - b)) H
 | .and=>K (.byte (a &&&b)) H
 | .or=>K (.byte (a |||b)) H
 | .xor=>K (.byte (a^^^b)) H
 |_=>none
def pU (cm:Cm β) (H:GH) (op:BinOp) (a:UInt8) (y:Int) (K:TV->GH->Option β):Option β:=
 cm.ec (aQ 0 y) (match op with
  | .shl=>K (.byte (UInt8.ofNat (a.toNat*2^(min y.toNat 8)))) H
  | .shr=>K (.byte (UInt8.ofNat (a.toNat / 2^(min y.toNat 8)))) H
  |_=>none)
def S9 (cm:Cm β) (H:GH) (op:BinOp) (a b:List UInt8) (K:TV->GH->Option β):Option β:=
 match op with
 | .eql=>K (.bool (a==b)) H
 | .neq=>K (.bool (!(a==b))) H
 | .lss=>K (.bool (Op.bytesLess a b)) H
 | .add=>cm.ec (Nat.ble (a.length+b.length) roomy) (K (.str (a++b)) H)
 |_=>none
def yl (cm:Cm β) (P:Program) (H:GH) (neg:Bool) (t:TypeId) (a b:TV) (K:TV->GH->Option β):Option β:=
 match P.underlying t,a,b with
 |some (.slice _),.aC _ _ (some c) _,.raw (.slice none 0 0) |some (.slice _),.raw (.slice none 0 0),.aC _ _ (some c) _=>K (.bool (if neg then !c else c)) H
 |some (.slice _),.aC _ xs none _,.raw (.slice none 0 0) |some (.slice _),.raw (.slice none 0 0),.aC _ xs none _=>cm.ec (!xs.isEmpty) (K (.bool neg) H)
 |some (.slice _),.all id,.raw (.slice none 0 0) |some (.slice _),.raw (.slice none 0 0),.all id=>match H.get id with
  |some (.arr _ _ xs _ _ em)=>match em with
   | .ex=>K (.bool (if neg then !xs.isEmpty else xs.isEmpty)) H
   |_=>cm.ec (!xs.isEmpty) (K (.bool neg) H)
  |_=>none
 |some (.slice _),.own _ _ len,.raw (.slice none 0 0) |some (.slice _),.raw (.slice none 0 0),.own _ _ len=>cm.ec (!Nat.beq len 0) (K (.bool neg) H)
 |some (.slice _),.raw (.slice none 0 0),.raw (.slice none 0 0)=>K (.bool (!neg)) H
 |some (.pointer _),.raw (.pointer none),.raw (.pointer none)=>K (.bool (!neg)) H
 |some (.pointer _),.ptr _ _,.raw (.pointer none) |some (.pointer _),.raw (.pointer none),.ptr _ _=>K (.bool neg) H
 |some (.pointer e),.ptr id o,.ptr id' o'=>bif Nat.beq id id' &&((P.info? e).map (·.size)).getD 0 !=0 &&(H.get id).isSome then K (.bool (if neg then !(Nat.beq o o') else Nat.beq o o')) H else none
 |some (.func _ _ _),.fn _ _ _,.raw .nilFunc |some (.func _ _ _),.raw .nilFunc,.fn _ _ _=>K (.bool neg) H
 |some (.func _ _ _),.raw .nilFunc,.raw .nilFunc=>K (.bool (!neg)) H
 |some (.map _ _),.raw (.map none),.raw (.map none)=>K (.bool (!neg)) H
 |some (.map _ _),.mp id,.raw (.map none)=>match H.get id with
  |some (.map _ _ _ _ _ xs em)=>bif em then K (.bool (if neg then !xs.isEmpty else xs.isEmpty)) H else K (.bool neg) H
  |_=>none
 |_,_,_=>none
def Fm (P:Program) (t:TypeId):TV->TV->Option Bool
 | .int k n,.int k' m=>match P.underlying t with
  |some (.int _)=>if k=k' then some (n==m) else none
  |_=>none
 | .byte a,.byte b=>match P.underlying t with
  |some (.int _)=>some (a==b)
  |_=>none
 | .bool a,.bool b=>match P.underlying t with
  |some .bool=>some (a==b)
  |_=>none
 | .str a,.str b=>match P.underlying t with
  |some .string=>some (a==b)
  |_=>none
 |_,_=>none
def HS (P:Program):List Field->Nat->List TV->List TV->Option Bool
 | [],_,[],[]=>some true
 | f :: r, i, a :: as, b :: bs => bif f.name != "_" && Nat.beq f.offset i then
   match Fm P f.type a b,HS P r (i+1) as bs with
   |some p,some q=>some (p &&q)
   |_,_=>none
  else none
 |_,_,_,_=>none
def vx (P:Program) (H:GH) (neg:Bool) (t:TypeId) (cs ds:List TV) (K:TV->GH->Option β):Option β:=
 match P.underlying t with
 |some (.struct fs)=>bif !P.stoodInHeld t && !P.eqGuardType P.depth t then match HS P fs.toList 0 cs ds with
   |some r=>K (.bool (bif neg then !r else r)) H
   |none=>none
  else none
 |_=>none
def S8 (cm:Cm β) (P:Program) (H:GH) (op:BinOp) (t:TypeId) (a b:TV) (K:TV->GH->Option β):Option β:=
 match a,b with
 | .int k n,.int k' m=>match op with
  | .shl | .shr=>vy cm H op k n m K
  |op=>if k=k' then T9 cm H op k n m K else none
 | .byte a,.byte b=>match op with
  | .shl | .shr=>pU cm H op a b.toNat K
  |op=>KC H op a b K
 | .byte a,.int _ m=>pU cm H op a m K
 | .int k n,.byte c=>vy cm H op k n c.toNat K
 | .str a,.str b=>S9 cm H op a b K
 | .bool a,.bool b=>match P.underlying t,op with
  |some .bool,.eql=>K (.bool (a==b)) H
  |some .bool,.neq=>K (.bool (!(a==b))) H
  |_,_=>none
 | .agg cs,.agg ds=>match op with
  | .eql=>vx P H false t cs ds K
  | .neq=>vx P H true t cs ds K
  |_=>none
 |a,b=>match op with
  | .eql=>yl cm P H false t a b K
  | .neq=>yl cm P H true t a b K
  |_=>none
def X6 (H:GH) (op:UnOp) (a:TV) (K:TV->GH->Option β):Option β:=
 match a,op with
 | .bool b,.not=>K (.bool !b) H
 | .int k n,.neg=>K (wr k (0 - n)) H
 |_,_=>none
def mH (H:GH) (s:Sh):TV->Option (List s.ty)
 | .raw (.slice none 0 0)=>some []
 | .aC e xs _ _=>match Sh.same e s with
  |some ⟨h⟩=>some (fM h xs)
  |none=>none
 | .all id=>match H.get id with
  |some (.arr _ e xs _ _ _)=>match Sh.same e s with
   |some ⟨h⟩=>some (fM h xs)
   |none=>none
  |_=>none
 | .own id off len=>match H.get id with
  |some (.arr _ e xs _ _ _)=>match Sh.same e s with
   |some ⟨h⟩=>some (fM h ((xs.drop off).take len))
   |none=>none
  |_=>none
 | .str t=>match Sh.same .byte s with
  |some ⟨h⟩=>some (fM h t)
  |none=>none
 |_=>none
def oX (cm:Cm β) (P:Program) (sh:cw) (H:GH) (argTypes:Array TypeId) (s x:TV) (K:TV->GH->Option β):Option β:=
 match argTypes[0]?,argTypes[1]? with
 |some t,some xt=>
  if isInt P xt then none else
  match bK P t with
  |some (e,i)=>match zeroOf P e,sh.ty e with
   |some z,some sp=>bif Nat.ble 1 i.size &&Nat.beq z.cells.size i.size &&Nat.beq sp.sz i.size then
    match mH H sp x with
    |some ys=>match s with
     | .raw (.slice none 0 0)=>cm.ec (Nat.ble (ys.length*(i.bytes+1)) roomy) (K (.all H.n) (H.new (.arr e sp ys true false .ex)))
     | .aC e' [] nl true=>cm.ec (Nat.ble (ys.length*(i.bytes+1)) roomy) (cm.Vu ys.isEmpty (K (.aC e' [] nl true) H) (K (.all H.n) (H.new (.arr e sp ys true false .no))))
     | .all id=>match H.get id with
      |some (.arr et e' xs w false em)=>bif Nat.beq et e then match Sh.same e' sp with
       |some ⟨h⟩=>cm.ec (Nat.ble ((xs.length+ys.length)*(i.bytes+1)) roomy) (K (.all H.n) ((H.del id).new (.arr e sp (fM h xs++ys) w false em)))
       |none=>none
       else none
      |_=>none
     | .own id off len=>match H.get id with
      |some (.arr et e' xs true false em)=>bif Nat.beq et e then match Sh.same e' sp with
       |some ⟨h⟩=>cm.ec (Nat.ble ((len+ys.length)*(i.bytes+1)) roomy && !(em.r9 &&Nat.beq (len+ys.length) 0)) (K (.all H.n) ((H.del id).new (.arr e sp (fM h ((xs.drop off).take len)++ys) true false .no)))
       |none=>none
       else none
      |_=>none
     |_=>none
    |none=>none
    else none
   |_,_=>none
  |none=>none
 |_,_=>none
def J5 (y:Nat):TV->Option (Bool×Nat)
 | .int _ i=>some (aQ 0 i &&aQ i y,i.toNat)
 |_=>none
def u5 (y d:Nat):Option TV->Option (Bool×Nat)
 |some v=>J5 y v
 |none=>some (true,d)
def kR (cm:Cm β) (len:Nat) (lo hi:Option TV) (K:Nat->Nat->Option β):Option β:=
 match u5 len len hi with
 |some (c,h)=>cm.ec c (match u5 h 0 lo with
  |some (d,l)=>cm.ec d (K l h)
  |none=>none)
 |none=>none
def HM (cm:Cm β) (P:Program) (H:GH) (t:TypeId) (x:TV) (lo hi mx:Option TV) (K:TV->GH->Option β):Option β:=
 match P.underlying t,x,mx with
 |some .string,.str s,none=>kR cm s.length lo hi fun l h=>K (.str ((s.drop l).take (h - l))) H
 |some (.slice e),.raw (.slice none 0 0),none=>match P.info? e with
  |some _=>kR cm 0 lo hi fun _ _=>K V0 H
  |none=>none
 |some (.slice e),.aC s xs nl _,none=>match P.info? e with
  |some i=>bif Nat.beq s.sz i.size then kR cm xs.length lo hi fun l h=>K (.aC s ((xs.drop l).take (h - l)) nl false) H else none
  |none=>none
 |some (.slice e),.all id,none=>match P.info? e,H.get id with
  |some i,some (.arr _ s xs _ _ _)=>bif Nat.beq s.sz i.size then kR cm xs.length lo hi fun l h=>K (.own id l (h - l)) H else none
  |_,_=>none
 |some (.slice e),.own id off len,none=>match P.info? e,H.get id with
  |some i,some (.arr _ s _ _ _ _)=>bif Nat.beq s.sz i.size then kR cm len lo hi fun l h=>K (.own id (off+l) (h - l)) H else none
  |_,_=>none
 |some (.slice e),.aC s xs nl _,some (.int _ (.ofNat 0))=>match P.info? e,lo,hi with
  |some i,none,some (.int _ (.ofNat 0))=>bif Nat.beq s.sz i.size then
    match nl with
    |some false=>K (.aC s [] nl true) H
    |_=>cm.ec (!xs.isEmpty) (K (.aC s [] none true) H)
   else none
  |_,_,_=>none
 |_,_,_=>none
def RO (P:Program) (H:GH) (t:TypeId) (x:TV) (K:TV->GH->Option β):Option β:=
 match P.underlying t,x with
 |some .string,.str s=>K (.int .i64 s.length) H
 |some (.array n _),_=>K (.int .i64 n) H
 |some (.slice _),.raw (.slice none 0 0)=>K (.int .i64 0) H
 |some (.slice _),.aC _ xs _ _=>K (.int .i64 xs.length) H
 |some (.slice _),.all id=>match H.get id with
  |some (.arr _ _ xs _ _ _)=>K (.int .i64 xs.length) H
  |_=>none
 |some (.slice _),.own _ _ len=>K (.int .i64 len) H
 |some (.map _ _),.raw (.map none)=>K (.int .i64 0) H
 |some (.map _ _),.mp id=>match H.get id with
  |some (.map _ _ _ _ _ xs _)=>K (.int .i64 xs.length) H
  |_=>none
 |_,_=>none
def wX (cm:Cm β) (i:Int):Nat->(Nat->Option β)->Option β
 |0,_=>none
 |n+1,K=>cm.Vu (i==n) (K n) (wX cm i n K)
def XY:TV->TV
 | .byte c=> .int .u8 c.toNat
 |t=>t
def fa (cm:Cm β) (P:Program) (sh:cw) (H:GH) (t:TypeId) (x ix:TV) (K:TV->GH->Option β):Option β:=
 match P.underlying t,x,ix with
 |some (.array n e),.ptr id off,.int _ i=>match P.info? e,H.get id with
  |some inf,some (.cells _ _ _)=>bif Nat.ble n 256 then wX cm i n fun j=>K (.ptr id (off+j*inf.size)) H else none
  |some inf,some (.arr _ s _ _ _ _)=>bif Nat.beq s.sz inf.size &&Nat.beq off 0 then cm.ec (aQ 0 i &&aR i n) (K (.iX id i.toNat 0) H) else none
  |some inf,none=>match sh.tb id with
   |some T=>bif Nat.beq T.e.sz inf.size &&Nat.beq off 0 &&Nat.blt id bQ then cm.ec (aQ 0 i &&aR i n) (cm.opt T.xs[i.toNat]? fun y=>K (.oD (T.e.dc y)) H) else none
   |none=>none
  |_,_=>none
 |some (.slice e),.aC s xs _ _,.int _ i=>match P.info? e with
  |some inf=>bif Nat.beq s.sz inf.size then cm.ec (aQ 0 i) (cm.opt xs[i.toNat]? fun y=>K (.oD (s.dc y)) H) else none
  |none=>none
 |some (.slice e),.all id,.int _ i=>match P.info? e,H.get id with
  |some inf,some (.arr _ s xs _ _ _)=>bif Nat.beq s.sz inf.size then cm.ec (aQ 0 i &&aR i xs.length) (K (.iX id i.toNat 0) H) else none
  |_,_=>none
 |some (.slice e),.own id off len,.int _ i=>match P.info? e,H.get id with
  |some inf,some (.arr _ s _ _ _ _)=>bif Nat.beq s.sz inf.size then cm.ec (aQ 0 i &&aR i len) (K (.iX id (off+i.toNat) 0) H) else none
  |_,_=>none
 |_,_,_=>none
def Cr (cm:Cm β) (P:Program) (H:GH) (t:TypeId) (x ix:TV) (K:TV->GH->Option β):Option β:=
 match P.underlying t,x,ix with
 |some .string,.str s,.int _ i=>cm.ec (aQ 0 i) (cm.opt s[i.toNat]? fun c=>K (.byte c) H)
 |some (.array n e),.agg cs,.int _ i=>match P.info? e with
  |some inf=>bif Nat.ble n 256 then wX cm i n fun j=>match fN P e (cs.drop (j*inf.size)) with
    |some v=>K v H
    |none=>none
   else none
  |none=>none
 |_,_,_=>none
def iR (P:Program) (H:GH) (s:TypeId) (x:TV) (f:Nat) (K:TV->GH->Option β):Option β:=
 match P.underlying s with
 |some (.struct fs)=>match fs[f]? with
  |some fd=>match P.info? fd.type with
   |some i=>bif Nat.beq i.size 0 then none else match x with
    | .ptr id off=>K (.ptr id (off+fd.offset)) H
    | .oD cs=>bif Nat.ble fd.offset cs.length then K (.oD (cs.drop fd.offset)) H else none
    | .iX id j off=>K (.iX id j (off+fd.offset)) H
    |_=>none
   |none=>none
  |none=>none
 |_=>none
def CT (P:Program) (H:GH) (t:TypeId) (x:TV) (f:Nat) (K:TV->GH->Option β):Option β:=
 match P.underlying t,x with
 |some (.struct fs),.agg cs=>match fs[f]? with
  |some fd=>match fN P fd.type (cs.drop fd.offset) with
   |some v=>K v H
   |none=>none
  |none=>none
 |_,_=>none
def iJ (cm:Cm β) (P:Program) (sh:cw) (H:GH) (t:TypeId) (eq:Bool) (l c:TV) (K:TV->GH->Option β):Option β:=
 match bK P t,l,c with
 |some (e,i),.int .i64 l,.int .i64 c=>
  match zeroOf P e,sh.ty e with
  |some z,some s=>bif Nat.beq z.cells.size i.size &&z.cells.toList.all fE &&Nat.beq s.sz i.size then
   match s.jb (z.cells.toList.map iC) with
   |some zz=>cm.ec (aQ 0 l &&aQ l c &&aQ (c*(i.bytes+1)) roomy) (K (bif eq then .all H.n else .own H.n 0 l.toNat) (H.new (.arr e s (List.replicate c.toNat zz) true false .no)))
   |none=>none
   else none
  |_,_=>none
 |_,_,_=>none
def sa (P:Program) (H:GH) (e:TypeId) (x:TV) (K:TV->GH->Option β):Option β:=
 match P.underlying e,x with
 |some (.int .u8),x=>match mH H .byte x with
  |some s=>K (.str s) H
  |none=>none
 |_,_=>none
def pA (P:Program) (H:GH) (src dst:TypeId) (x:TV) (K:TV->GH->Option β):Option β:=
 match P.underlying src,P.underlying dst with
 |some (.int _),some (.int k)=>match x with
  | .int _ n=>bif (match k with | .u8=>true |_=>false) then K (.byte (UInt8.ofNat (IntKind.u8.wrap n).toNat)) H else K (wr k n) H
  | .byte c=>bif (match k with | .u8=>true |_=>false) then K (.byte c) H else K (wr k c.toNat) H
  |_=>none
 |some (.int _),some .string=>match x with
  | .int _ n=>K (.str (bl (Utf8.encode n))) H
  | .byte c=>K (.str (bl (Utf8.encode c.toNat))) H
  |_=>none
 |some .string,some .string=>match x with
  | .str s=>K (.str s) H
  |_=>none
 |some .string,some (.slice e)=>match P.underlying e,x with
  |some (.int .u8),.str s=>K (.aC .byte s (some false) false) H
  |_,_=>none
 |some (.slice e),some .string=>match x with
  | .str _=>none
  |x=>sa P H e x K
 |some (.pointer t),some .unsafePointer=>match x with
  | .ptr id off=>match H.get id with
   |some (.cells _ cs _)=>bif !Nat.beq (P.cellsOf t) 0 &&Nat.blt off cs.length then K (.ptr id off) H else none
   |_=>none
  | .raw (.pointer none)=>K x H
  |_=>none
 |some .unsafePointer,some (.pointer u)=>match x with
  | .ptr id off=>match H.get id with
   |some (.cells et cs true)=>bif !Nat.beq (P.cellsOf u) 0 &&liesAt P P.depth et (cs.length / P.cellsOf et) off u 1 then K (.ptr id off) H else none
   |_=>none
  | .raw (.pointer none)=>K x H
  |_=>none
 |_,_=>none
def L2 (P:Program) (e:TypeId) (ge:Bool) (es:Sh):Option es.ty:=
 match zeroOf P e with
 |some z=>bif (match z with | .agg _=>ge |_=> !ge) &&z.cells.toList.all fE then es.jb (z.cells.toList.map iC) else none
 |none=>none
def B7 (P:Program) (sh:cw) (H:GH) (t:TypeId) (x k:TV) (ok:Bool) (K:TV->GH->Option β):Option β:=
 match qk P t,x with
 |some (kt,e),.mp id=>match H.get id with
  |some (.map kt' gk ge ks es xs _)=>bif Nat.beq kt kt' then
   match Sf gk ks k,L2 P e ge es with
   |some kx,some z=>K (bif ok then .jj [Ty ge es (nz ks xs kx z),.bool (E8 ks xs kx)] else Ty ge es (nz ks xs kx z)) H
   |_,_=>none
   else none
  |_=>none
 |some (kt,e),.raw (.map none)=>match sh.ty kt,sh.ty e with
  |some ks,some es=>bif nD P kt (XV k) ks then
   match Sf (XV k) ks k,eI P e with
   |some _,some ge=>match L2 P e ge es with
    |some z=>K (bif ok then .jj [Ty ge es z,.bool false] else Ty ge es z) H
    |none=>none
   |_,_=>none
   else none
  |_,_=>none
 |_,_=>none
def B0 (cm:Cm β) (P:Program) (H:GH) (t:TypeId) (m k v:TV) (K:TV->GH->Option β):Option β:=
 match qk P t,m with
 |some (kt,_),.mp id=>match iv v.cells H with
  |some (cs,H)=>match H.get id with
   |some (.map kt' gk ge ks es xs em)=>bif Nat.beq kt kt' &&(bif ge then XV v else v.one) then
    match Sf gk ks k,es.jb cs with
    |some kx,some y=>cm.ec (!(em &&xs.isEmpty)) (K .undef (H.put id (.map kt' gk ge ks es (iV ks xs kx y) em)))
    |_,_=>none
    else none
   |_=>none
  |none=>none
 |_,_=>none
def lW (P:Program) (sh:cw) (H:GH) (t:TypeId) (r:Option TV) (K:TV->GH->Option β):Option β:=
 match qk P t with
 |some (kt,e)=>match sh.ty kt,sh.ty e,eI P kt,eI P e with
  |some ks,some es,some gk,some ge=>bif (match r with
    |none=>true
    |some (.int _ _)=>true
    |_=>false) &&nD P kt gk ks then K (.mp H.n) (H.new (.map kt gk ge ks es [] false)) else none
  |_,_,_,_=>none
 |none=>none
def J4 (P:Program) (H:GH) (t:TypeId) (x:TV) (K:TV->GH->Option β):Option β:=
 match P.underlying t,x with
 |some .string,.str s=>K (.ptr H.n 0) (H.new (.iter s 0))
 |_,_=>none
def Q7 (cm:Cm β) (H:GH) (it:TV) (K:TV->GH->Option β):Option β:=
 match it with
 | .ptr r 0=>match H.get r with
  |some (.iter s pos)=>cm.Vu (Nat.blt pos s.length)
    (K (.jj [.bool true,.int .i64 pos,.int .i32 (Utf8.decode (ba s) pos).1]) (H.put r (.iter s (pos+(Utf8.decode (ba s) pos).2))))
    (K (.jj [.bool false]) H)
  |_=>none
 |_=>none
def TF:TV->Option Value
 | .int k n=>some (.int k n)
 | .bool b=>some (.bool b)
 |_=>none
def SL:List TV->Option (List Value)
 | []=>some []
 |t::r=>match TF t,SL r with
  |some v,some vs=>some (v::vs)
  |_,_=>none
def Yo:TV->Option Value
 | .agg cs=>match SL cs with
  |some vs=>some (.agg ⟨vs⟩)
  |none=>none
 |t=>TF t
def OS:Value->TV
 | .int k n=> .int k n
 | .bool b=> .bool b
 |_=> .undef
def X5:Value->TV
 | .agg cs=> .agg (cs.toList.map OS)
 |v=>OS v
def oH (P:Program) (H:GH) (t:TypeId) (x:TV) (K:TV->GH->Option β):Option β:=
 match P.underlying t with
 |some (.interface _)=>none
 |some _=>match Yo x with
  |some v=>K (.raw (.iface t v)) H
  |none=>none
 |none=>none
def mg (P:Program) (H:GH) (x:TV) (asserted:TypeId) (ok:Bool) (K:TV->GH->Option β):Option β:=
 match P.underlying asserted,x with
 |some (.interface _),_=>none
 |some _,.raw (.iface t v)=>bif Nat.beq t asserted then K (bif ok then .jj [X5 v,.bool true] else X5 v) H else none
 |_,_=>none
def Ii (H:GH) (x:TV) (K:TV->GH->Option β):Option β:=
 match x with
 | .raw (.iface t v)=>K (.HW (.iface t v)) H
 |_=>none
def Og {α:Type} (v:TV) (p:Value->α) (k:α):α:=match v with
 | .HW w=>p w
 |_=>k
def p8 (H:GH) (tp:TV) (i:Nat) (K:TV->GH->Option β):Option β:=
 match tp with
 | .jj vs=>match vs[i]? with
  |some v=>K v H
  |none=>none
 |_=>none
def LC (H:GH) (c a b:TV) (K:TV->GH->Option β):Option β:=
 match c with
 | .bool t=>match a,b with
  | .bool x,.bool y=>K (.bool (bif t then x else y)) H
  |a,b=>@Bool.rec (fun _=>Option β) (K b H) (K a H) t
 |_=>none
end
end Go.Gv
