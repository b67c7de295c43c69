/- The ideal evaluator: a deterministic, executable big-step reading of the model's code over an ideal heap in which an append of unknown room makes a new block and ends the old one. -/
import GoSem.Step
import Derived.RangeFuncLeaves
import Derived.RecoverIn
theorem zaa {α β:Type _} (a:α) (f:α->Option β):Option.bind (some a) f=f a:=rfl
theorem zab {α:Type _} {a b:α}:(bif false then a else b)=b:=rfl
theorem zac {α:Type _} {a b:α}:(bif true then a else b)=a:=rfl
theorem zad {α:Type _} {a:α} {l:List α}:(a::l).length=l.length+1:=rfl
theorem zae (a b:Bool):((a&&b)=true)=(a=true/\b=true):=Bool.and_eq_true a b
theorem zaf {α:Type _} {a b:List α}:(a++b).length=a.length+b.length:=List.length_append
theorem zag (a b c:Nat):(a+b)*c=a*c+b*c:=Nat.add_mul a b c
theorem zah {α:Type _} {i j:Nat} {l:List α}:List.drop i (List.drop j l)=List.drop (j+i) l:=List.drop_drop
theorem zai (n:Nat):n<=n:=Nat.le_refl n
theorem zaj {α:Type _} {l:List α} {i:Nat} (h:i<l.length):l[i]? =some l[i]:=List.getElem?_eq_getElem h
theorem zak {α:Type _} {a:α} {l:List α} (y:α) (h:a∈l):a∈y::l:=List.mem_cons_of_mem y h
abbrev zal:Int->Int:=Go.IntKind.wrap .i64
set_option linter.unusedSimpArgs false
set_option linter.unusedVariables false
namespace Go.Iv
open Go
noncomputable section
inductive Tr (α:Type) where
 |nil
 |node (l:Tr α) (v:Option α) (r:Tr α)
def Tr.get {α:Type}:Tr α->Nat->Option α
 | .nil,_=>none
 | .node l v r,n=>match n with
  |0=>v
  |m+1=>match m%2 with
   |0=>l.get (m / 2)
   |_+1=>r.get (m / 2)
def Tr.fU {α:Type} (v:Option α):Nat->Tr α->Nat->Tr α
 |0,t,_=>t
 |f+1,t,n=>match t with
  | .nil=>match n with
   |0=> .node .nil v .nil
   |m+1=>match m%2 with
    |0=> .node (fU v f .nil (m / 2)) none .nil
    |_+1=> .node .nil none (fU v f .nil (m / 2))
  | .node l x r=>match n with
   |0=> .node l v r
   |m+1=>match m%2 with
    |0=> .node (fU v f l (m / 2)) x r
    |_+1=> .node l x (fU v f r (m / 2))
def Tr.put {α:Type} (t:Tr α) (n:Nat) (v:Option α):Tr α:=Tr.fU v (n+1) t n
noncomputable def Tr.lA {α:Type} (t:Tr α):Nat->Option α:=
 @Tr.rec α (fun _=>Nat->Option α) (fun _=>none)
  (fun _ v _ il ir n=>@Nat.rec (fun _=>Option α) v (fun m _=>@Nat.rec (fun _=>Option α) (il (Nat.div m 2)) (fun _ _=>ir (Nat.div m 2)) (Nat.mod m 2)) n) t
theorem Tr.fN {α:Type} (t:Tr α):∀ n,t.lA n=t.get n:=by
 induction t with
 |nil=>intro n;rfl
 |node l v r il ir=>
  intro n;cases n with
  |zero=>rfl
  |succ m=>
   show @Nat.rec (fun _=>Option α) (l.lA (m / 2)) (fun _ _=>r.lA (m / 2)) (m%2)=_
   simp only [Tr.get,il,ir];cases m%2<;>rfl
noncomputable def Tr.qU {α:Type} (v:Option α) (f:Nat):Tr α->Nat->Tr α:=
 @Nat.rec (fun _=>Tr α->Nat->Tr α) (fun t _=>t) (fun _ ih t n=>@Tr.rec α (fun _=>Tr α)
  (@Nat.rec (fun _=>Tr α) (.node .nil v .nil) (fun m _=>@Nat.rec (fun _=>Tr α) (.node (ih .nil (Nat.div m 2)) none .nil) (fun _ _=> .node .nil none (ih .nil (Nat.div m 2))) (Nat.mod m 2)) n)
  (fun l x r _ _=>@Nat.rec (fun _=>Tr α) (.node l v r) (fun m _=>@Nat.rec (fun _=>Tr α) (.node (ih l (Nat.div m 2)) x r) (fun _ _=> .node l x (ih r (Nat.div m 2))) (Nat.mod m 2)) n) t) f
theorem Tr.eV {α:Type} (v:Option α) (f:Nat):∀ (t:Tr α) (n:Nat),Tr.qU v f t n=Tr.fU v f t n:=by
 induction f with
 |zero=>intro t n;rfl
 |succ f ih=>
  intro t n;cases t with
  |nil=>
   cases n with
   |zero=>rfl
   |succ m=>
    show @Nat.rec (fun _=>Tr α) (.node (Tr.qU v f .nil (m / 2)) none .nil) (fun _ _=> .node .nil none (Tr.qU v f .nil (m / 2))) (m%2)=_
    simp only [Tr.fU,ih];cases m%2<;>rfl
  |node l x r=>
   cases n with
   |zero=>rfl
   |succ m=>
    show @Nat.rec (fun _=>Tr α) (.node (Tr.qU v f l (m / 2)) x r) (fun _ _=> .node l x (Tr.qU v f r (m / 2))) (m%2)=_
    simp only [Tr.fU,ih];cases m%2<;>rfl
inductive AL where
 |e
 |c (k:Nat) (v:Value) (r:AL)
inductive S4 where
 |out |loc |tmp
structure FI where
 nt:Nat
 cs:List Nat
 st:List Nat
structure En where
 loc:AL
 tmp:AL
def aS:Value:= .chan (some 0)
def lk:AL->Nat->Value
 | .e,_=>aS
 | .c k v r,t=>bif Nat.beq k t then v else lk r t
def My:AL->Nat->Value->AL
 | .e,d,v=> .c d v .e
 | .c k u r,d,v=>bif Nat.beq k d then .c d v r else .c k u (My r d v)
def ou:List Nat->Nat->Bool
 | [],_=>false
 |k::r,t=>bif Nat.beq k t then true else ou r t
def cls (fi:FI) (t:Nat):S4:=bif Nat.ble fi.nt t then .out else bif ou fi.cs t then .loc else .tmp
def fw (fi:FI) (E:En) (t:Nat):Value:=
 match cls fi t with
 | .out=>aS
 | .loc=>lk E.loc t
 | .tmp=>lk E.tmp t
def nq (fi:FI) (d:Nat) (v:Value) (E:En):En:=
 match cls fi d with
 | .out=>E
 | .loc=>⟨My E.loc d v,E.tmp⟩
 | .tmp=>⟨E.loc,.c d v E.tmp⟩
def En.reset (E:En):En:=⟨E.loc,.e⟩
inductive bA where
 |cells (cs:List Value) (elem:TypeId) (fz:Nat) (ex sh:Bool)
 |map (es:List MapEntry) (clock:Nat)
 |eW (s:ByteArray) (pos:Nat)
 |loop (st:LoopState) (pending:Option Code) (fi:FI) (E:En) (params:List Tmp) (assign body:Code)
 |mf (open_:Bool)
 deriving Inhabited
structure IH where
 t:Tr bA
 n:Nat
def dO:Nat:=18446744073709551616
def kx (b:Nat):Nat:=bif Nat.ble dO b then Nat.succ (Nat.mul 2 (Nat.sub b dO)) else Nat.mul 2 b
def IH.get (H:IH) (b:Nat):Option bA:=H.t.lA (kx b)
def IH.put (H:IH) (b:Nat) (o:bA):IH:=⟨Tr.qU (some o) (Nat.succ (kx b)) H.t (kx b),H.n⟩
def IH.del (H:IH) (b:Nat):IH:=⟨Tr.qU none (Nat.succ (kx b)) H.t (kx b),H.n⟩
def IH.new (H:IH) (o:bA):IH:=⟨Tr.qU (some o) (Nat.succ (kx H.n)) H.t (kx H.n),Nat.succ H.n⟩
def eE:Nat:=2^64
def ptrTo (b:Nat):Value:= .pointer (some ⟨b,0,none⟩)
def bQ {α:Type} (p:Program):Sem α->Option α
 | .pure a=>some a
 | .program k=>bQ p (k p)
 |_=>none
def aV:Value->Bool
 | .bool _ | .int _ _ | .float _ _ | .complex _ _ _ | .string _ | .pointer none | .map none | .chan none | .nilFunc | .nilIface=>true
 | .slice none l c=>l==0 &&c==0
 |_=>false
def free:Value->Bool
 | .agg cs=>cs.toList.all aV
 | .tuple vs=>vs.toList.all aV
 | .iface _ v=>aV v
 |v=>aV v
def ba (l:List UInt8):ByteArray:=⟨⟨l⟩⟩
def bl (s:ByteArray):List UInt8:=s.data.toList
def bU:Nat:=32
def eU:Fn->Bool
 | .yield _=>false
 |_=>true
def dC (fi:FI) (E:En):Operand->Value
 | .tmp t=>fw fi E t
 | .const v=>if free v then v else aS
 | .global g=>if g<bU then .pointer (some ⟨g,0,none⟩) else aS
 | .func f=> .func (.func f) #[] #[]
def c8 (fi:FI) (E:En) (dst:Option Tmp) (v:Value):En:=
 match dst with
 |some d=>nq fi d v E
 |none=>E
def IH.bq (H:IH) (b off n:Nat):Option (List Value):=
 match H.get b with
 |some (.cells cs _ _ _ _)=>if off+n<=cs.length then some ((cs.drop off).take n) else none
 |_=>none
def eK (P:Program) (t:TypeId):Option Bool:=
 match P.underlying t with
 |some (.struct _) |some (.array _ _)=>some true
 |some _=>some false
 |none=>none
def iS (P:Program) (H:IH) (t:TypeId) (b off:Nat):Option Value:=
 match eK P t with
 |some true=>match P.info? t with
  |some i=>match H.bq b off i.size with
   |some cs=>some (.agg ⟨cs⟩)
   |none=>none
  |none=>none
 |some false=>match H.get b with
  |some (.cells cs _ _ _ _)=>cs[off]?
  |_=>none
 |none=>none
def ay:List Value->Nat->List Value->List Value
 |cs,_,[]=>cs
 |cs,off,v::vs=>ay (cs.set off v) (off+1) vs
def one:Value->Bool
 | .agg _ | .tuple _ | .chan _=>false
 |_=>true
def IH.dF (H:IH) (b off:Nat) (vs:List Value):Option IH:=
 if vs.isEmpty then some H else
 match H.get b with
 |some (.cells cs e fz ex sh)=>
  if dO<=b &&fz<=off &&(off+vs.length<=cs.length) &&vs.all one then some (H.put b (.cells (ay cs off vs) e fz ex sh)) else none
 |_=>none
def gH (P:Program) (H:IH) (t:TypeId) (b off:Nat) (v:Value):Option IH:=
 match P.info? t with
 |some i=>if v.cells.size=i.size then H.dF b off v.cells.toList else none
 |none=>none
def bI (H:IH) (e:TypeId) (cs:List Value):IH:=H.new (.cells cs e 0 true false)
inductive ag where
 |val (v:Value) (H:IH)
 |skip (H:IH)
 |defer (d:Deferred) (H:IH)
 |panic (v:Value) (H:IH)
inductive X where
 |normal
 |exit (id:Nat)
 |ret
 |panic (v:Value)
abbrev eS:=Option (X×En×IH×List Deferred)
inductive End where
 |returned (v:Value)
 |panicked (v:Value)
structure Self where
 code:FI->Option Nat->Code->En->IH->List Deferred->eS
 call:FuncId->List Value->IH->Option (End×IH)
def bM (P:Program) (t:TypeId):Option (TypeId×TypeInfo):=
 match P.underlying t with
 |some (.slice e)=>match P.info? e with
  |some i=>some (e,i)
  |none=>none
 |_=>none
def Oi:Value->Bool
 | .chan (some _)=>false
 |_=>true
def zeroOf (P:Program) (t:TypeId):Option Value:=
 match P.info? t with
 |some i=>match i.zero with
  |some z=>if free z then some z else none
  |none=>none
 |none=>none
def dx (z:List Value):Nat->List Value
 |0=> []
 |n+1=>z++dx z n
def bJ (H:IH) (sz n:Nat):Value->Option (List Value)
 | .slice none 0 0=>some []
 | .slice (some ⟨b,off,none⟩) _ _=>if n=0 then some [] else H.bq b off (n*sz)
 | .string s=>some (((bl s).take n).map fun c=> .int .u8 c.toNat)
 |_=>none
def roomy:Nat:=2^40
def dA:Value->Option Nat
 | .slice _ n _=>some n
 | .string s=>some s.size
 |_=>none
def c9 (H:IH) (e:TypeId) (size bytes n:Nat) (new:List Value) (s:Value):Option ag:=
 match s with
 | .slice none 0 0=>
  if n*(bytes+1)<=roomy then some (.val (.slice (some ⟨H.n,0,none⟩) n (eE+size)) (H.new (.cells new e 0 false false))) else none
 | .slice (some ⟨b,off,none⟩) len cap=>
  if (len+n)*(bytes+1)<=roomy then
   if eE<=cap then
    match H.get b with
    |some (.cells cs e' fz _ sh)=>
     if dO<=b &&off+len*size<=cs.length &&e'==e && !sh &&fz<=off+len*size &&cap==eE+size then
      some (.val (.slice (some ⟨H.n,0,none⟩) (len+n) cap) ((H.del b).new (.cells (((cs.drop off).take (len*size))++new) e (fz - off) false false)))
     else none
    |_=>none
   else if len+n<=cap then
    match H.dF b (off+len*size) new with
    |some H'=>some (.val (.slice (some ⟨b,off,none⟩) (len+n) cap) H')
    |none=>none
   else
    match (if len=0 then some [] else H.bq b off (len*size)) with
    |some old=>some (.val (.slice (some ⟨H.n,0,none⟩) (len+n) (eE+size)) (H.new (.cells (old++new) e 0 false false)))
    |none=>none
  else none
 |_=>none
def isInt (P:Program) (t:TypeId):Bool:=
 match P.underlying t with
 |some (.int _)=>true
 |none=>true
 |_=>false
def iI (P:Program) (H:IH) (argTypes:Array TypeId) (s x:Value):Option ag:=
 match argTypes[0]?,argTypes[1]? with
 |some t,some xt=>
  if isInt P xt then none else
  match bM P t,dA x with
  |some (e,i),some n=>
   match zeroOf P e,bJ H i.size n x with
   |some z,some new=>
    if 0<i.size &&z.cells.size==i.size &&new.length==n*i.size &&new.all one then
     if n=0 then match s with
      | .slice a l c=>some (.val (.slice a l c) H)
      |_=>none
     else c9 H e i.size i.bytes n new s
    else none
   |_,_=>none
  |_,_=>none
 |_,_=>none
def bound (y:Nat):Value->Option Nat
 | .int _ i=>if 0<=i &&i<=(y:Int) then some i.toNat else none
 |_=>none
def bN (y:Nat) (d:Nat):Option Value->Option Nat
 |some v=>bound y v
 |none=>some d
def cp (a:Option Addr) (size len cap:Nat) (lo hi mx:Option Value):Option Value:=
 match a,mx with
 |none,none=>match bN 0 0 hi with
  |some h=>match bN h 0 lo with
   |some _=>some (.slice none 0 0)
   |none=>none
  |none=>none
 |some ⟨b,off,none⟩,none=>
  if eE<=cap then
   if cap==eE+size then
    match bN len len hi with
    |some h=>match bN h 0 lo with
     |some l=>some (.slice (some ⟨b,off+l*size,none⟩) (h - l) cap)
     |none=>none
    |none=>none
   else none
  else
   match bN cap len hi with
   |some h=>match bN h 0 lo with
    |some l=>some (.slice (some ⟨b,off+l*size,none⟩) (h - l) (cap - l))
    |none=>none
   |none=>none
 |some ⟨b,off,none⟩,some mv=>
  match bound (if eE<=cap then len else cap) mv with
  |some m=>
   if m<eE then
    match hi with
    |some hv=>match bound m hv with
     |some h=>match bN h 0 lo with
      |some l=>some (.slice (some ⟨b,off+l*size,none⟩) (h - l) (m - l))
      |none=>none
     |none=>none
    |none=>none
   else none
  |none=>none
 |_,_=>none
def cV (P:Program) (H:IH) (t:TypeId) (x:Value) (lo hi mx:Option Value):Option ag:=
 match P.underlying t,x with
 |some .string,.string s=>
  match mx,bN s.size s.size hi with
  |none,some h=>match bN h 0 lo with
   |some l=>some (.val (.string (ba (((bl s).drop l).take (h - l)))) H)
   |none=>none
  |_,_=>none
 |some (.slice e),.slice a len cap=>
  match P.info? e with
  |some i=>match cp a i.size len cap lo hi mx with
   |some v=>some (.val v H)
   |none=>none
  |none=>none
 |some (.array n e),.pointer (some ⟨b,off,none⟩)=>
  match P.info? e,mx with
  |some i,none=>
   if n<eE then
    match bN n n hi with
    |some h=>match bN h 0 lo with
     |some l=>some (.val (.slice (some ⟨b,off+l*i.size,none⟩) (h - l) (n - l)) H)
     |none=>none
    |none=>none
   else none
  |_,_=>none
 |_,_=>none
def eD (P:Program) (H:IH) (t:TypeId) (x:Value):Option Value:=
 match P.underlying t,x with
 |some .string,.string s=>some (.int .i64 s.size)
 |some (.array n _),_=>some (.int .i64 n)
 |some (.slice _),.slice _ n _=>some (.int .i64 n)
 |some (.map _ _),.map none=>some (.int .i64 0)
 |some (.map _ _),.map (some r)=>match H.get r with
  |some (.map es _)=>some (.int .i64 es.length)
  |_=>none
 |_,_=>none
def lr (P:Program) (empty:Bool) (kt:TypeId) (k:Value):Bool:=
 match P.underlying kt,k with
 |some (.int _),.int _ _=>true
 |some .string,.string _=>true
 |some .bool,.bool _=>true
 |some (.struct _),.agg cs=>cs.toList.all aV &&(match bQ P (Instr.checkKey empty 10000 kt (.agg cs)) with |some _=>true |none=>false)
 |_,_=>false
def fQ (P:Program) (kt:TypeId):Value->Value->Option Bool
 | .int k a,.int k' b=>if k=k' then some (a==b) else none
 | .string a,.string b=>some (bl a==bl b)
 | .bool a,.bool b=>some (a==b)
 | .agg a,.agg b=>bQ P (Op.equal kt (.agg a) (.agg b))
 |_,_=>none
def iU (P:Program) (kt:TypeId) (k:Value):List MapEntry->Nat->Option (Option (Nat×Value))
 | [],_=>some none
 |e::es,i=>match fQ P kt k e.key with
  |some true=>some (some (i,e.val))
  |some false=>iU P kt k es (i+1)
  |none=>none
def Cw (k v:Value):List MapEntry->Nat->List MapEntry
 | [],_=> []
 |e::es,0=>{ e with key:=k,val:=v }::es
 |e::es,i+1=>e::Cw k v es i
def pJ (P:Program) (t:TypeId):Option (TypeId×TypeId):=
 match P.underlying t with
 |some (.map k e)=>some (k,e)
 |_=>none
def valOf (H:IH):Option Value->Option ag
 |some v=>some (.val v H)
 |none=>none
def ef (P:Program) (H:IH) (t:TypeId) (x y:Value):Option Bool:=
 match P.underlying t,x,y with
 |some .string,.string a,.string b=>some (bl a==bl b)
 |some (.pointer _),.pointer none,.pointer b=>some b.isNone
 |some (.pointer _),.pointer (some _),.pointer none=>some false
 |some (.pointer e),.pointer (some ⟨b,o,none⟩),.pointer (some ⟨b',o',none⟩)=>
  if b==b' &&((P.info? e).map (·.size)).getD 0 !=0 &&(H.get b).isSome then some (o==o') else none
 |some (.slice _),.slice none _ _,.slice b _ _=>some b.isNone
 |some (.slice _),.slice (some _) _ _,.slice none _ _=>some false
 |some (.map _ _),.map none,.map b=>some b.isNone
 |some (.map _ _),.map (some _),.map none=>some false
 |some (.func _ _ _),.nilFunc,.nilFunc=>some true
 |some (.func _ _ _),.nilFunc,.func _ _ _=>some false
 |some (.func _ _ _),.func _ _ _,.nilFunc=>some false
 |some (.interface _),.nilIface,.iface _ _=>some false
 |some (.interface _),.iface _ _,.nilIface=>some false
 |_,_,_=>none
def II (c:UInt8):List UInt8->Nat->Option Nat
 | [],_=>none
 |x::xs,i=>if x==c then some i else II c xs (i+1)
def MN (c:UInt8):List UInt8->Nat
 | []=>0
 |x::xs=>if x==c then MN c xs+1 else MN c xs
def gu (P:Program) (H:IH) (fn:Func) (args:List Value):Option (Value×IH):=
 if fn.origin != "" then none else
 if fn.name == "internal/abi.NoEscape" then
  match args with
  | [x]=>some (x,H)
  |_=>none
 else if fn.name == "internal/bytealg.IndexByteString" then
  match args with
  | [.string s,.int .u8 c]=>match II (UInt8.ofNat c.toNat) (bl s) 0 with
   |some i=>some (.int .i64 i,H)
   |none=>some (.int .i64 (-1),H)
  |_=>none
 else if fn.name == "internal/bytealg.CountString" then
  match args with
  | [.string s,.int .u8 c]=>some (.int .i64 (MN (UInt8.ofNat c.toNat) (bl s)),H)
  |_=>none
 else if fn.name == "internal/bytealg.MakeNoZero" then
  match args,fn.resultTypes[0]? with
  | [.int .i64 n],some t=>match bM P t with
   |some (e,i)=>if 0<=n &&n<=roomy &&i.size==1 then some (.slice (some ⟨H.n,0,none⟩) n.toNat (eE+1),H.new (.cells [] e 0 false false)) else none
   |none=>none
  |_,_=>none
 else none
inductive YN where
 |done (v:Value) (H:IH)
 |ended (e:End) (H:IH)
def gJ (P:Program) (self:Self) (H:IH) (fv:Value) (args:List Value):Option (End×IH):=
 match fv with
 | .func (.func f) first captured=>match P.funcs[f]? with
  |some fn=>match fn.body with
   |none=>match gu P H fn (first.toList++args++captured.toList) with
    |some (v,H)=>some (.returned v,H)
    |none=>none
   |some _=>self.call f (first.toList++args++captured.toList) H
  |none=>none
 |_=>none
def ky (fi:FI):List Tmp->List Value->En->En
 |t::ts,a::as,E=>ky fi ts as (nq fi t a E)
 |_,_,E=>E
def fM (self:Self) (l:Nat) (args:List Value) (H:IH):Option (Value×IH):=
 match H.get l with
 |some (.loop .ready _ fi E ps dZ body)=>
  if dO<=l &&args.length==ps.length then
   match self.code fi (some l) dZ (ky fi ps args E) H [] with
   |some (.normal,E1,H1,[])=>
    match H1.get l with
    |some (.loop .ready pd1 fi1 F1 ps1 asg1 body1)=>
     match self.code fi (some l) body E1 (H1.put l (.loop .busy pd1 fi1 F1 ps1 asg1 body1)) [] with
     |some (x,_,H2,[])=>
      match H2.get l with
      |some (.loop _ _ fi2 F2 ps2 asg2 body2)=>
       match x with
       | .normal=>some (.bool true,H2.put l (.loop .ready none fi2 F2 ps2 asg2 body2))
       | .ret=>some (.bool false,H2.put l (.loop .done (some .ret) fi2 F2 ps2 asg2 body2))
       | .exit id=>some (.bool false,H2.put l (.loop .done (some (.exit id)) fi2 F2 ps2 asg2 body2))
       | .panic _=>none
      |_=>none
     |_=>none
    |_=>none
   |_=>none
  else none
 |_=>none
def mo:Option (End×IH)->Option ag
 |some (.returned v,H)=>some (.val v H)
 |some (.panicked v,H)=>some (.panic v H)
 |none=>none
def JP (P:Program) (H:IH) (argTypes:Array TypeId) (d x:Value):Option ag:=
 match argTypes[0]?,d,dA x with
 |some t,.slice base dLen _,some sl=>
  match bM P t with
  |some (_,i)=>
   if Nat.min sl dLen=0 then some (.val (.int .i64 0) H) else
   match bJ H i.size (Nat.min sl dLen) x,base with
   |some cs,some ⟨b,off,none⟩=>match H.dF b off cs with
    |some H'=>some (.val (.int .i64 (Nat.min sl dLen)) H')
    |none=>none
   |_,_=>none
  |none=>none
 |_,_,_=>none
def cR (P:Program) (H:IH) (s:Sem Value):Option ag:=
 match bQ P s with
 |some v=>if aV v then some (.val v H) else none
 |none=>none
def byteOf:Value->Option UInt8
 | .int .u8 n=>some (UInt8.ofNat n.toNat)
 |_=>none
def bytesOf:List Value->Option (List UInt8)
 | []=>some []
 |v::vs=>match byteOf v,bytesOf vs with
  |some b,some bs=>some (b::bs)
  |_,_=>none
def qz (P:Program) (pt e:TypeId):Bool:=
 match P.underlying pt with
 |some (.pointer e2)=>e2==e
 |_=>false
def iz (P:Program) (H:IH) (argTypes:Array TypeId) (p:Value) (n:Int):Option ag:=
 match p with
 | .pointer none=>if n=0 then some (.val (.string (ba [])) H) else none
 | .pointer (some ⟨b,off,none⟩)=>
  if n=0 then some (.val (.string (ba [])) H) else
  match H.get b,argTypes[0]? with
  |some (.cells cs e fz ex sh),some pt=>
   if dO<=b && !sh &&0<=n &&n<=roomy &&off+n.toNat<=cs.length &&P.cellsOf e==1 &&qz P pt e then
    match bytesOf ((cs.drop off).take n.toNat) with
    |some bs=>some (.val (.string (ba bs)) (H.put b (.cells cs e (max fz (off+n.toNat)) ex sh)))
    |none=>none
   else none
  |_,_=>none
 |_=>none
def bk (P:Program) (H:IH) (b:Builtin) (argTypes:Array TypeId) (type:TypeId) (args:List Value):Option ag:=
 match b,args with
 | .append,[s,x]=>iI P H argTypes s x
 | .len,[x]=>match argTypes[0]? with
  |some t=>valOf H (eD P H t x)
  |none=>none
 | .cap,[.slice _ _ c]=>match argTypes[0]? with
  |some t=>match P.underlying t with
   |some (.slice _)=>if eE<=c then none else some (.val (.int .i64 c) H)
   |_=>none
  |none=>none
 | .copy,[d,x]=>JP P H argTypes d x
 | .max,args=>if args.all aV then cR P H (Builtin.max_ argTypes type ⟨args⟩) else none
 | .min,args=>if args.all aV then cR P H (Builtin.min_ argTypes type ⟨args⟩) else none
 | .unsafeSliceData,[.slice none _ _]=>some (.val (.pointer none) H)
 | .unsafeSliceData,[.slice (some a) l _]=>if l=0 then none else some (.val (.pointer (some a)) H)
 | .unsafeString,[p,.int .i64 n]=>if argTypes[0]?.isSome then iz P H argTypes p n else none
 |_,_=>none
def da (P:Program) (self:Self) (Z:Operand->Value) (H:IH) (c:Call) (type:TypeId):Option ag:=
 let args:=c.args.toList.map Z
 match c.callee with
 | .builtin b=>bk P H b c.argTypes type args
 | .value f=>match Z f with
  | .func (.yield l) _ _=>match fM self l args H with
   |some (v,H)=>some (.val v H)
   |none=>none
  |fv=>mo (gJ P self H fv args)
 | .invoke _ _=>none
def fk (P:Program) (H:IH) (e:TypeId) (s:ByteArray):Option ag:=
 match P.underlying e with
 |some (.int .u8)=>some (.val (.slice (some ⟨H.n,0,none⟩) s.size (eE+1)) (H.new (.cells ((bl s).map fun c=> .int .u8 c.toNat) e 0 false true)))
 |_=>none
def hM (P:Program) (H:IH) (src dst e:TypeId) (b off l c:Nat):Option ag:=
 if src==dst then match P.underlying e,H.get b with
  |some (.int .u8),some (.cells cs e' fz ex sh)=>if dO<=b &&fz==0 &&(ex ||sh) then some (.val (.slice (some ⟨b,off,none⟩) l c) (H.put b (.cells cs e' fz ex true))) else none
  |_,_=>none
 else none
def db (P:Program) (H:IH) (e:TypeId) (x:Value):Option ag:=
 match P.underlying e,x with
 |some (.int .u8),.slice none _ _=>some (.val (.string (ba [])) H)
 |some (.int .u8),.slice (some ⟨b,off,none⟩) len _=>
  if len=0 then some (.val (.string (ba [])) H) else
  match H.bq b off len with
  |some cs=>match bytesOf cs with
   |some bs=>some (.val (.string (ba bs)) H)
   |none=>none
  |none=>none
 |_,_=>none
def dP (P:Program) (H:IH) (t:TypeId) (x:Value):Option ag:=
 match x with
 | .pointer none=>some (.val (.pointer none) H)
 | .pointer (some ⟨b,off,none⟩)=>match H.get b with
  |some (.cells cs _ _ _ _)=>if P.cellsOf t !=0 &&off<cs.length then some (.val (.pointer (some ⟨b,off,none⟩)) H) else none
  |_=>none
 |_=>none
def cY (P:Program) (H:IH) (u:TypeId) (x:Value):Option ag:=
 match x with
 | .pointer none=>some (.val (.pointer none) H)
 | .pointer (some ⟨b,off,none⟩)=>match H.get b with
  |some (.cells cs e _ true _)=>if P.cellsOf u !=0 &&liesAt P P.depth e (cs.length / P.cellsOf e) off u 1 then some (.val (.pointer (some ⟨b,off,none⟩)) H) else none
  |_=>none
 |_=>none
def bb (P:Program) (H:IH) (src dst:TypeId) (x:Value):Option ag:=
 match P.underlying src,P.underlying dst with
 |some (.int _),some (.int k)=>match x with
  | .int _ n=>some (.val (.int k (k.wrap n)) H)
  |_=>none
 |some (.int _),some .string=>match x with
  | .int _ n=>some (.val (.string (Utf8.encode n)) H)
  |_=>none
 |some .string,some .string=>match x with
  | .string s=>some (.val (.string s) H)
  |_=>none
 |some .string,some (.slice e)=>match x with
  | .string s=>fk P H e s
  |_=>none
 |some (.slice _),some (.slice e)=>match x with
  | .slice (some ⟨b,off,none⟩) l c=>hM P H src dst e b off l c
  |_=>none
 |some (.slice e),some .string=>db P H e x
 |some (.pointer t),some .unsafePointer=>dP P H t x
 |some .unsafePointer,some (.pointer u)=>cY P H u x
 |_,_=>none
def lS (H:IH) (c a b:Value):Option ag:=
 match c with
 | .bool t=>some (.val (if t then a else b) H)
 |_=>none
def fC (P:Program) (H:IH) (e:TypeId):Option ag:=
 match zeroOf P e with
 |some z=>some (.val (ptrTo H.n) (bI H e z.cells.toList))
 |none=>none
def nD (H:IH) (e:TypeId) (v:Value):Option ag:=
 if Oi v then some (.val (ptrTo H.n) (bI H e v.cells.toList)) else none
def placesOf (P:Program):List Field->Option (List (Nat×Nat))
 | []=>some []
 |f::fs=>match P.info? f.type,placesOf P fs with
  |some i,some r=>some ((f.offset,i.size)::r)
  |_,_=>none
def hZ (P:Program) (H:IH) (t:TypeId) (ps:List (Nat×Value)):Option ag:=
 if ps.all (fun p=>Oi p.2) then
  match zeroOf P t with
  |some z=>
   match P.underlying t with
   |some (.struct fs)=>match placesOf P fs.toList with
    |some places=>match Instr.fill (fun i=>places[i]?) z.cells ps with
     |some cells=>some (.val (.agg cells) H)
     |none=>none
    |none=>none
   |some (.array _ e)=>match P.info? e with
    |some i=>match Instr.fill (fun j=>some (j*i.size,i.size)) z.cells ps with
     |some cells=>some (.val (.agg cells) H)
     |none=>none
    |none=>none
   |_=>none
  |none=>none
 else none
def aW (P:Program) (H:IH) (t:TypeId) (len:Nat) (ps:List (Nat×Value)):Option ag:=
 match bM P t with
 |some (e,i)=>
  if len*(i.size+1)<=2^24 &&ps.all (fun p=>Oi p.2) then
   match zeroOf P e with
   |some z=>
    if z.cells.size=i.size then
     match Instr.fill (fun j=>some (j*i.size,i.size)) ⟨dx z.cells.toList len⟩ ps with
     |some cells=>some (.val (.slice (some ⟨H.n,0,none⟩) len len) (bI H e cells.toList))
     |none=>none
    else none
   |none=>none
  else none
 |none=>none
def dy (P:Program) (H:IH) (t:TypeId) (a:Value):Option ag:=
 match a with
 | .pointer (some ⟨b,off,none⟩)=>match iS P H t b off with
  |some v=>some (.val v H)
  |none=>none
 |_=>none
def bW (P:Program) (H:IH) (t:TypeId) (a v:Value):Option ag:=
 match a with
 | .pointer (some ⟨b,off,none⟩)=>match gH P H t b off v with
  |some H=>some (.skip H)
  |none=>none
 |_=>none
def ek (H:IH) (x:Value):Option ag:=
 match x with
 | .pointer (some a)=>some (.val (.pointer (some a)) H)
 | .func (.func f) x y=>some (.val (.func (.func f) x y) H)
 | .func (.yield l) x y=>some (.val (.func (.yield l) x y) H)
 |_=>none
def bT (P:Program) (H:IH) (neg:Bool) (t:TypeId) (x y:Operand) (a b:Value):Option ag:=
 match a,b with
 | .int k n,.int k' m=>if k=k' then some (.val (.bool (if neg then n !=m else n==m)) H) else none
 | .string s,.string r=>some (.val (.bool (if neg then !(bl s==bl r) else bl s==bl r)) H)
 |a,b=>match ef P H t a b with
  |some r=>some (.val (.bool (if neg then !r else r)) H)
  |none=>if free a &&free b then
    match bQ P (do eqGuard (if neg then .neq else .eql) t x y a b;Go.binOp (if neg then .neq else .eql) t a b) with
    |some v=>if aV v then some (.val v H) else none
    |none=>none
   else none
def aQ:Int->Int->Bool
 | .ofNat a,.ofNat b=>Nat.ble a b
 | .ofNat _,.negSucc _=>false
 | .negSucc _,.ofNat _=>true
 | .negSucc a,.negSucc b=>Nat.ble b a
theorem kI (a b:Int):aQ a b=decide (a<=b):=by
 cases a<;>cases b<;>simp only [aQ]<;>rw [Bool.eq_iff_iff]<;>simp [Nat.ble_eq]<;>omega
def aR (a b:Int):Bool:= !aQ b a
theorem mK (a b:Int):aR a b=decide (a<b):=by
 simp only [aR,kI];rw [Bool.eq_iff_iff];simp
def aD (P:Program) (H:IH) (op:BinOp) (t:TypeId) (x y:Operand) (a b:Value):Option ag:=
 match op with
 | .eql=>bT P H false t x y a b
 | .neq=>bT P H true t x y a b
 | .lss=>match a,b with
  | .int k n,.int k' m=>if k=k' then some (.val (.bool (aR n m)) H) else none
  | .string s,.string r=>some (.val (.bool (Op.bytesLess (bl s) (bl r))) H)
  |_,_=>none
 | .leq=>match a,b with
  | .int k n,.int k' m=>if k=k' then some (.val (.bool (aQ n m)) H) else none
  |_,_=>none
 | .gtr=>match a,b with
  | .int k n,.int k' m=>if k=k' then some (.val (.bool (aR m n)) H) else none
  |_,_=>none
 | .geq=>match a,b with
  | .int k n,.int k' m=>if k=k' then some (.val (.bool (aQ m n)) H) else none
  |_,_=>none
 | .add=>match a,b with
  | .int k n,.int k' m=>if k=k' then some (.val (.int k (k.wrap (n+m))) H) else none
  | .string s,.string r=>if s.size+r.size<=roomy then some (.val (.string (ba (bl s++bl r))) H) else none
  |_,_=>none
 | .sub=>match a,b with
  | .int k n,.int k' m=>if k=k' then some (.val (.int k (k.wrap (n - m))) H) else none
  |_,_=>none
 |op=>match a,b with
  | .int k n,.int k' m=>match bQ P (Go.binOp op t (.int k n) (.int k' m)) with
   |some v=>if aV v then some (.val v H) else none
   |none=>none
  |_,_=>none
def EG (P:Program) (H:IH) (op:UnOp) (a:Value):Option ag:=
 match a with
 | .bool b=>match op with
  | .not=>some (.val (.bool !b) H)
  |_=>none
 | .int k n=>match bQ P (Op.unary op (.int k n)) with
  |some v=>if aV v then some (.val v H) else none
  |none=>none
 |_=>none
def dM (P:Program) (H:IH) (t:TypeId) (v:Value):Option ag:=
 match P.underlying t with
 |some (.interface _)=>none
 |some _=>some (.val (.iface t v) H)
 |none=>none
def cj (P:Program) (H:IH) (t:TypeId) (hint:Option Value):Option ag:=
 match hint with
 |none=>some (.val (.map (some H.n)) (H.new (.map [] 0)))
 |some h=>match P.underlying t,h with
  |some (.map _ _),.int _ _=>some (.val (.map (some H.n)) (H.new (.map [] 0)))
  |_,_=>none
def bg (P:Program) (H:IH) (t:TypeId) (l c:Value):Option ag:=
 match bM P t,l,c with
 |some (e,i),.int .i64 l,.int .i64 c=>
  if 0<=l &&l<=c &&c*(i.bytes+1)<=roomy then
   match zeroOf P e with
   |some z=>if z.cells.size=i.size then some (.val (.slice (some ⟨H.n,0,none⟩) l.toNat c.toNat) (bI H e (dx z.cells.toList c.toNat))) else none
   |none=>none
  else none
 |_,_,_=>none
def cD (P:Program) (H:IH) (s:TypeId) (x:Value) (f:Nat):Option ag:=
 match P.underlying s,x with
 |some (.struct fs),.pointer (some ⟨b,off,none⟩)=>match fs[f]? with
  |some fd=>match P.info? fd.type with
   |some i=>if i.size=0 then none else some (.val (.pointer (some ⟨b,off+fd.offset,none⟩)) H)
   |none=>none
  |none=>none
 |_,_=>none
def partOf (P:Program) (t:TypeId) (cs:List Value) (off:Nat):Option Value:=
 match eK P t with
 |some true=>match P.info? t with
  |some i=>some (.agg ⟨(cs.drop off).take i.size⟩)
  |none=>none
 |some false=>cs[off]?
 |none=>none
def je (P:Program) (H:IH) (t:TypeId) (x:Value) (f:Nat):Option ag:=
 match P.underlying t,x with
 |some (.struct fs),.agg cs=>match fs[f]? with
  |some fd=>valOf H (partOf P fd.type cs.toList fd.offset)
  |none=>none
 |_,_=>none
def br (P:Program) (H:IH) (t:TypeId) (x ix:Value):Option ag:=
 match P.underlying t,x,ix with
 |some (.array n e),.pointer (some ⟨b,off,none⟩),.int _ i=>match P.info? e with
  |some inf=>if 0<=i &&i<(n:Int) then some (.val (.pointer (some ⟨b,off+i.toNat*inf.size,none⟩)) H) else none
  |none=>none
 |some (.slice e),.slice (some ⟨b,off,none⟩) len _,.int _ i=>match P.info? e with
  |some inf=>if 0<=i &&i<(len:Int) then some (.val (.pointer (some ⟨b,off+i.toNat*inf.size,none⟩)) H) else none
  |none=>none
 |_,_,_=>none
def ig (P:Program) (H:IH) (t:TypeId) (x ix:Value):Option ag:=
 match P.underlying t,x,ix with
 |some .string,.string s,.int _ i=>if 0<=i then
   match (bl s)[i.toNat]? with
   |some c=>some (.val (.int .u8 c.toNat) H)
   |none=>none
  else none
 |some (.array n e),.agg cs,.int _ i=>if 0<=i &&i<(n:Int) then
   match P.info? e with
   |some inf=>valOf H (partOf P e cs.toList (i.toNat*inf.size))
   |none=>none
  else none
 |_,_,_=>none
def fR (ok:Bool) (v:Value) (there:Bool):Value:=if ok then .tuple #[v,.bool there] else v
def cU (P:Program) (H:IH) (t:TypeId) (x k:Value) (ok:Bool):Option ag:=
 match pJ P t,x with
 |some (kt,e),.map (some r)=>match H.get r with
  |some (.map es _)=>if lr P es.isEmpty kt k then
    match iU P kt k es 0 with
    |some (some (_,v))=>some (.val (fR ok v true) H)
    |some none=>match zeroOf P e with
     |some z=>some (.val (fR ok z false) H)
     |none=>none
    |none=>none
   else none
  |_=>none
 |some (kt,e),.map none=>if lr P true kt k then match zeroOf P e with
   |some z=>some (.val (fR ok z false) H)
   |none=>none
  else none
 |_,_=>none
def eR (P:Program) (H:IH) (t:TypeId) (m k v:Value):Option ag:=
 match pJ P t,m with
 |some (kt,_),.map (some r)=>if r<dO then none else match H.get r with
  |some (.map es ck)=>if lr P false kt k then match iU P kt k es 0 with
   |some (some (i,_))=>match es[i]? with
    |some e=>if Instr.sameBits 10000 e.key k then some (.skip (H.put r (.map (Cw k v es i) ck))) else none
    |none=>none
   |some none=>some (.skip (H.put r (.map (es++ [{ key:=k,val:=v,born:=ck }]) (ck+1))))
   |none=>none
   else none
  |_=>none
 |_,_=>none
def mM (P:Program) (H:IH) (t:TypeId) (x:Value):Option ag:=
 match P.underlying t,x with
 |some .string,.string s=>some (.val (ptrTo H.n) (H.new (.eW s 0)))
 |_,_=>none
def lU (H:IH) (it:Value):Option ag:=
 match it with
 | .pointer (some ⟨r,0,none⟩)=>match H.get r with
  |some (.eW s pos)=>
   if r<dO then none else
   if pos<s.size then
    some (.val (.tuple #[.bool true,.int .i64 pos,.int .i32 (Utf8.decode s pos).1]) (H.put r (.eW s (pos+(Utf8.decode s pos).2))))
   else some (.val (.tuple #[.bool false]) H)
  |_=>none
 |_=>none
def dm (P:Program) (H:IH) (x:Value) (asserted:TypeId) (ok:Bool):Option ag:=
 match P.underlying asserted,x with
 |some (.interface _),_=>none
 |some _,.iface t v=>if t=asserted then some (.val (fR ok v true) H) else none
 |_,_=>none
def fp (H:IH) (tp:Value) (i:Nat):Option ag:=
 match tp with
 | .tuple vs=>valOf H vs.toList[i]?
 |_=>none
def kJ (H:IH) (f:Value) (args:List Value):Option ag:=
 match f with
 | .func fn first captured=>if eU fn then some (.defer { target:= .fn fn captured,args:=⟨first.toList++args⟩ } H) else none
 |_=>none
def qh (H:IH) (x:Value):Option ag:=
 match x with
 | .iface t v=>some (.panic (.iface t v) H)
 |_=>none
def aO (P:Program) (self:Self) (Z:Operand->Value) (H:IH) (o:Oper):Option ag:=
 match o.op with
 | .move x | .assign x=>some (.val (Z x) H)
 | .pick c a b=>lS H (Z c) (Z a) (Z b)
 | .alloc e=>fC P H e
 | .box e x=>nD H e (Z x)
 | .build t parts=>hZ P H t (parts.toList.map fun p=>(p.1,Z p.2))
 | .buildSlice t len parts=>aW P H t len (parts.toList.map fun p=>(p.1,Z p.2))
 | .load t a=>dy P H t (Z a)
 | .store t a x=>bW P H t (Z a) (Z x)
 | .nilCheck x=>ek H (Z x)
 | .binOp op t x y _=>aD P H op t x y (Z x) (Z y)
 | .unOp op _ x=>EG P H op (Z x)
 | .convert src dst x=>bb P H src dst (Z x)
 | .makeInterface t x=>dM P H t (Z x)
 | .makeFunc fn first captured=>if eU fn then some (.val (.func fn ⟨first.toList.map Z⟩ ⟨captured.toList.map Z⟩) H) else none
 | .makeMap t r=>cj P H t (r.map Z)
 | .makeSlice t l c=>bg P H t (Z l) (Z c)
 | .slice t x lo hi mx=>cV P H t (Z x) (lo.map Z) (hi.map Z) (mx.map Z)
 | .fieldAddr s x f=>cD P H s (Z x) f
 | .field t x f=>je P H t (Z x) f
 | .indexAddr t x ix=>br P H t (Z x) (Z ix)
 | .index t x ix=>ig P H t (Z x) (Z ix)
 | .lookup t x k ok=>cU P H t (Z x) (Z k) ok
 | .mapUpdate t m k x | .insert t m k x=>eR P H t (Z m) (Z k) (Z x)
 | .range t x=>mM P H t (Z x)
 | .next it true=>lU H (Z it)
 | .typeAssert x _ asserted ok=>dm P H (Z x) asserted ok
 | .extract tp i=>fp H (Z tp) i
 | .call c=>da P self Z H c o.type
 | .defer c=>match c.callee with
  | .value f=>kJ H (Z f) (c.args.toList.map Z)
  |_=>none
 | .panic x=>qh H (Z x)
 |_=>none
end
end Go.Iv
