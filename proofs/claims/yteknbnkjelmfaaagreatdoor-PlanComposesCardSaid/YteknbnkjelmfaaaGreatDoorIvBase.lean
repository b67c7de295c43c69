/- The ideal evaluator: a deterministic, executable big-step reading of the model's code over an ideal heap in which an append of unknown room makes a new block and ends the old one. -/
import GoSem.Step
import Derived.RangeFuncLeaves
import Derived.RecoverIn
theorem zaa {α β:Type _} (a:α) (f:α->Option β):Option.bind (some a) f=f a:=rfl
theorem zab {α:Type _} {a b:α}:(bif false then a else b)=b:=rfl
theorem zac {α:Type _} {a b:α}:(bif true then a else b)=a:=rfl
theorem zad {α:Type _} {a:α} {l:List α}:(a::l).length=l.length+1:=rfl
theorem zae (a b:Bool):((a&&b)=true)=(a=true/\b=true):=Bool.and_eq_true a b
theorem zaf {α:Type _} {a b:List α}:(a++b).length=a.length+b.length:=List.length_append
theorem zag :(!true)=false:=rfl
theorem zah {α:Type _}:([]:List α).length=0:=rfl
theorem zai (b:Bool):(b&&b)=b:=Bool.and_self b
theorem zaj (a b c:Nat):(a+b)*c=a*c+b*c:=Nat.add_mul a b c
theorem zak {α:Type _} {i j:Nat} {l:List α}:List.drop i (List.drop j l)=List.drop (j+i) l:=List.drop_drop
theorem zal (n:Nat):n<=n:=Nat.le_refl n
theorem zam {α:Type _} {l:List α} {i:Nat} (h:i<l.length):l[i]? =some l[i]:=List.getElem?_eq_getElem h
theorem zan {α:Type _} {a:α} {l:List α} (y:α) (h:a∈l):a∈y::l:=List.mem_cons_of_mem y h
abbrev zao:Int->Int:=Go.IntKind.wrap .i64
set_option linter.unusedSimpArgs false
set_option linter.unusedVariables false
namespace Go.Iv
open Go
noncomputable section
inductive Tr (α:Type) where
 |nil
 |node (l:Tr α) (v:Option α) (r:Tr α)
def Tr.get {α:Type}:Tr α->Nat->Option α
 | .nil,_=>none
 | .node l v r,n=>match n with
  |0=>v
  |m+1=>match m%2 with
   |0=>l.get (m / 2)
   |_+1=>r.get (m / 2)
def Tr.gp {α:Type} (v:Option α):Nat->Tr α->Nat->Tr α
 |0,t,_=>t
 |f+1,t,n=>match t with
  | .nil=>match n with
   |0=> .node .nil v .nil
   |m+1=>match m%2 with
    |0=> .node (gp v f .nil (m / 2)) none .nil
    |_+1=> .node .nil none (gp v f .nil (m / 2))
  | .node l x r=>match n with
   |0=> .node l v r
   |m+1=>match m%2 with
    |0=> .node (gp v f l (m / 2)) x r
    |_+1=> .node l x (gp v f r (m / 2))
def Tr.put {α:Type} (t:Tr α) (n:Nat) (v:Option α):Tr α:=Tr.gp v (n+1) t n
noncomputable def Tr.k9 {α:Type} (t:Tr α):Nat->Option α:=
 @Tr.rec α (fun _=>Nat->Option α) (fun _=>none)
  (fun _ v _ il ir n=>@Nat.rec (fun _=>Option α) v (fun m _=>@Nat.rec (fun _=>Option α) (il (Nat.div m 2)) (fun _ _=>ir (Nat.div m 2)) (Nat.mod m 2)) n) t
theorem Tr.fq {α:Type} (t:Tr α):∀ n,t.k9 n=t.get n:=by
 induction t with
 |nil=>intro n;rfl
 |node l v r il ir=>
  intro n;cases n with
  |zero=>rfl
  |succ m=>
   show @Nat.rec (fun _=>Option α) (l.k9 (m / 2)) (fun _ _=>r.k9 (m / 2)) (m%2)=_
   simp only [Tr.get,il,ir];cases m%2<;>rfl
noncomputable def Tr.pR {α:Type} (v:Option α) (f:Nat):Tr α->Nat->Tr α:=
 @Nat.rec (fun _=>Tr α->Nat->Tr α) (fun t _=>t) (fun _ ih t n=>@Tr.rec α (fun _=>Tr α)
  (@Nat.rec (fun _=>Tr α) (.node .nil v .nil) (fun m _=>@Nat.rec (fun _=>Tr α) (.node (ih .nil (Nat.div m 2)) none .nil) (fun _ _=> .node .nil none (ih .nil (Nat.div m 2))) (Nat.mod m 2)) n)
  (fun l x r _ _=>@Nat.rec (fun _=>Tr α) (.node l v r) (fun m _=>@Nat.rec (fun _=>Tr α) (.node (ih l (Nat.div m 2)) x r) (fun _ _=> .node l x (ih r (Nat.div m 2))) (Nat.mod m 2)) n) t) f
theorem Tr.eI {α:Type} (v:Option α) (f:Nat):∀ (t:Tr α) (n:Nat),Tr.pR v f t n=Tr.gp v f t n:=by
 induction f with
 |zero=>intro t n;rfl
 |succ f ih=>
  intro t n;cases t with
  |nil=>
   cases n with
   |zero=>rfl
   |succ m=>
    show @Nat.rec (fun _=>Tr α) (.node (Tr.pR v f .nil (m / 2)) none .nil) (fun _ _=> .node .nil none (Tr.pR v f .nil (m / 2))) (m%2)=_
    simp only [Tr.gp,ih];cases m%2<;>rfl
  |node l x r=>
   cases n with
   |zero=>rfl
   |succ m=>
    show @Nat.rec (fun _=>Tr α) (.node (Tr.pR v f l (m / 2)) x r) (fun _ _=> .node l x (Tr.pR v f r (m / 2))) (m%2)=_
    simp only [Tr.gp,ih];cases m%2<;>rfl
inductive AL where
 |e
 |c (k:Nat) (v:Value) (r:AL)
inductive U6 where
 |out |loc |tmp
structure FI where
 nt:Nat
 cs:List Nat
 st:List Nat
structure En where
 loc:AL
 tmp:AL
def aO:Value:= .chan (some 0)
def lk:AL->Nat->Value
 | .e,_=>aO
 | .c k v r,t=>bif Nat.beq k t then v else lk r t
def Og:AL->Nat->Value->AL
 | .e,d,v=> .c d v .e
 | .c k u r,d,v=>bif Nat.beq k d then .c d v r else .c k u (Og r d v)
def AF:List Nat->Nat->Bool
 | [],_=>false
 |k::r,t=>bif Nat.beq k t then true else AF r t
def cls (fi:FI) (t:Nat):U6:=bif Nat.ble fi.nt t then .out else bif AF fi.cs t then .loc else .tmp
def ft (fi:FI) (E:En) (t:Nat):Value:=
 match cls fi t with
 | .out=>aO
 | .loc=>lk E.loc t
 | .tmp=>lk E.tmp t
def sH (fi:FI) (d:Nat) (v:Value) (E:En):En:=
 match cls fi d with
 | .out=>E
 | .loc=>⟨Og E.loc d v,E.tmp⟩
 | .tmp=>⟨E.loc,.c d v E.tmp⟩
def En.reset (E:En):En:=⟨E.loc,.e⟩
inductive bN where
 |cells (cs:List Value) (elem:TypeId) (fz:Nat) (ex sh:Bool)
 |map (es:List MapEntry) (clock:Nat)
 |eM (s:ByteArray) (pos:Nat)
 |loop (st:LoopState) (pending:Option Code) (fi:FI) (E:En) (params:List Tmp) (assign body:Code)
 |mg (open_:Bool)
 deriving Inhabited
structure IH where
 t:Tr bN
 n:Nat
def ep:Nat:=18446744073709551616
def kx (b:Nat):Nat:=bif Nat.ble ep b then Nat.succ (Nat.mul 2 (Nat.sub b ep)) else Nat.mul 2 b
def IH.get (H:IH) (b:Nat):Option bN:=H.t.k9 (kx b)
def IH.put (H:IH) (b:Nat) (o:bN):IH:=⟨Tr.pR (some o) (Nat.succ (kx b)) H.t (kx b),H.n⟩
def IH.del (H:IH) (b:Nat):IH:=⟨Tr.pR none (Nat.succ (kx b)) H.t (kx b),H.n⟩
def IH.new (H:IH) (o:bN):IH:=⟨Tr.pR (some o) (Nat.succ (kx H.n)) H.t (kx H.n),Nat.succ H.n⟩
def ff:Nat:=2^64
def ptrTo (b:Nat):Value:= .pointer (some ⟨b,0,none⟩)
def bR {α:Type} (p:Program):Sem α->Option α
 | .pure a=>some a
 | .program k=>bR p (k p)
 |_=>none
def aU:Value->Bool
 | .bool _ | .int _ _ | .float _ _ | .complex _ _ _ | .string _ | .pointer none | .map none | .chan none | .nilFunc | .nilIface=>true
 | .slice none l c=>l==0 &&c==0
 |_=>false
def free:Value->Bool
 | .agg cs=>cs.toList.all aU
 | .tuple vs=>vs.toList.all aU
 | .iface _ v=>aU v
 |v=>aU v
def ba (l:List UInt8):ByteArray:=⟨⟨l⟩⟩
def bl (s:ByteArray):List UInt8:=s.data.toList
def bI:Nat:=32
def fW:Fn->Bool
 | .yield _=>false
 |_=>true
def eQ (fi:FI) (E:En):Operand->Value
 | .tmp t=>ft fi E t
 | .const v=>if free v then v else aO
 | .global g=>if g<bI then .pointer (some ⟨g,0,none⟩) else aO
 | .func f=> .func (.func f) #[] #[]
def dT (fi:FI) (E:En) (dst:Option Tmp) (v:Value):En:=
 match dst with
 |some d=>sH fi d v E
 |none=>E
def IH.bf (H:IH) (b off n:Nat):Option (List Value):=
 match H.get b with
 |some (.cells cs _ _ _ _)=>if off+n<=cs.length then some ((cs.drop off).take n) else none
 |_=>none
def gI (P:Program) (t:TypeId):Option Bool:=
 match P.underlying t with
 |some (.struct _) |some (.array _ _)=>some true
 |some _=>some false
 |none=>none
def l7 (P:Program) (H:IH) (t:TypeId) (b off:Nat):Option Value:=
 match gI P t with
 |some true=>match P.info? t with
  |some i=>match H.bf b off i.size with
   |some cs=>some (.agg ⟨cs⟩)
   |none=>none
  |none=>none
 |some false=>match H.get b with
  |some (.cells cs _ _ _ _)=>cs[off]?
  |_=>none
 |none=>none
def aA:List Value->Nat->List Value->List Value
 |cs,_,[]=>cs
 |cs,off,v::vs=>aA (cs.set off v) (off+1) vs
def one:Value->Bool
 | .agg _ | .tuple _ | .chan _=>false
 |_=>true
def IH.eJ (H:IH) (b off:Nat) (vs:List Value):Option IH:=
 if vs.isEmpty then some H else
 match H.get b with
 |some (.cells cs e fz ex sh)=>
  if ep<=b &&fz<=off &&(off+vs.length<=cs.length) &&vs.all one then some (H.put b (.cells (aA cs off vs) e fz ex sh)) else none
 |_=>none
def nr (P:Program) (H:IH) (t:TypeId) (b off:Nat) (v:Value):Option IH:=
 match P.info? t with
 |some i=>if v.cells.size=i.size then H.eJ b off v.cells.toList else none
 |none=>none
def bO (H:IH) (e:TypeId) (cs:List Value):IH:=H.new (.cells cs e 0 true false)
inductive az where
 |val (v:Value) (H:IH)
 |skip (H:IH)
 |defer (d:Deferred) (H:IH)
 |panic (v:Value) (H:IH)
inductive X where
 |normal
 |exit (id:Nat)
 |ret
 |panic (v:Value)
abbrev qx:=Option (X×En×IH×List Deferred)
inductive End where
 |returned (v:Value)
 |panicked (v:Value)
structure Self where
 code:FI->Option Nat->Code->En->IH->List Deferred->qx
 call:FuncId->List Value->IH->Option (End×IH)
def cu (P:Program) (t:TypeId):Option (TypeId×TypeInfo):=
 match P.underlying t with
 |some (.slice e)=>match P.info? e with
  |some i=>some (e,i)
  |none=>none
 |_=>none
def P8:Value->Bool
 | .chan (some _)=>false
 |_=>true
def zeroOf (P:Program) (t:TypeId):Option Value:=
 match P.info? t with
 |some i=>match i.zero with
  |some z=>if free z then some z else none
  |none=>none
 |none=>none
def eY (z:List Value):Nat->List Value
 |0=> []
 |n+1=>z++eY z n
def bD (H:IH) (sz n:Nat):Value->Option (List Value)
 | .slice none 0 0=>some []
 | .slice (some ⟨b,off,none⟩) _ _=>if n=0 then some [] else H.bf b off (n*sz)
 | .string s=>some (((bl s).take n).map fun c=> .int .u8 c.toNat)
 |_=>none
def roomy:Nat:=2^40
def fj:Value->Option Nat
 | .slice _ n _=>some n
 | .string s=>some s.size
 |_=>none
def cJ (H:IH) (e:TypeId) (size bytes n:Nat) (new:List Value) (s:Value):Option az:=
 match s with
 | .slice none 0 0=>
  if n*(bytes+1)<=roomy then some (.val (.slice (some ⟨H.n,0,none⟩) n (ff+size)) (H.new (.cells new e 0 false false))) else none
 | .slice (some ⟨b,off,none⟩) len cap=>
  if (len+n)*(bytes+1)<=roomy then
   if ff<=cap then
    match H.get b with
    |some (.cells cs e' fz _ sh)=>
     if ep<=b &&off+len*size<=cs.length &&e'==e && !sh &&fz<=off+len*size &&cap==ff+size then
      some (.val (.slice (some ⟨H.n,0,none⟩) (len+n) cap) ((H.del b).new (.cells (((cs.drop off).take (len*size))++new) e (fz - off) false false)))
     else none
    |_=>none
   else if len+n<=cap then
    match H.eJ b (off+len*size) new with
    |some H'=>some (.val (.slice (some ⟨b,off,none⟩) (len+n) cap) H')
    |none=>none
   else
    match (if len=0 then some [] else H.bf b off (len*size)) with
    |some old=>some (.val (.slice (some ⟨H.n,0,none⟩) (len+n) (ff+size)) (H.new (.cells (old++new) e 0 false false)))
    |none=>none
  else none
 |_=>none
def isInt (P:Program) (t:TypeId):Bool:=
 match P.underlying t with
 |some (.int _)=>true
 |none=>true
 |_=>false
def iC (P:Program) (H:IH) (argTypes:Array TypeId) (s x:Value):Option az:=
 match argTypes[0]?,argTypes[1]? with
 |some t,some xt=>
  if isInt P xt then none else
  match cu P t,fj x with
  |some (e,i),some n=>
   match zeroOf P e,bD H i.size n x with
   |some z,some new=>
    if 0<i.size &&z.cells.size==i.size &&new.length==n*i.size &&new.all one then
     if n=0 then match s with
      | .slice a l c=>some (.val (.slice a l c) H)
      |_=>none
     else cJ H e i.size i.bytes n new s
    else none
   |_,_=>none
  |_,_=>none
 |_,_=>none
def bound (y:Nat):Value->Option Nat
 | .int _ i=>if 0<=i &&i<=(y:Int) then some i.toNat else none
 |_=>none
def bw (y:Nat) (d:Nat):Option Value->Option Nat
 |some v=>bound y v
 |none=>some d
def bG (a:Option Addr) (size len cap:Nat) (lo hi mx:Option Value):Option Value:=
 match a,mx with
 |none,none=>match bw 0 0 hi with
  |some h=>match bw h 0 lo with
   |some _=>some (.slice none 0 0)
   |none=>none
  |none=>none
 |some ⟨b,off,none⟩,none=>
  if ff<=cap then
   if cap==ff+size then
    match bw len len hi with
    |some h=>match bw h 0 lo with
     |some l=>some (.slice (some ⟨b,off+l*size,none⟩) (h - l) cap)
     |none=>none
    |none=>none
   else none
  else
   match bw cap len hi with
   |some h=>match bw h 0 lo with
    |some l=>some (.slice (some ⟨b,off+l*size,none⟩) (h - l) (cap - l))
    |none=>none
   |none=>none
 |some ⟨b,off,none⟩,some mv=>
  match bound (if ff<=cap then len else cap) mv with
  |some m=>
   if m<ff then
    match hi with
    |some hv=>match bound m hv with
     |some h=>match bw h 0 lo with
      |some l=>some (.slice (some ⟨b,off+l*size,none⟩) (h - l) (m - l))
      |none=>none
     |none=>none
    |none=>none
   else none
  |none=>none
 |_,_=>none
def cU (P:Program) (H:IH) (t:TypeId) (x:Value) (lo hi mx:Option Value):Option az:=
 match P.underlying t,x with
 |some .string,.string s=>
  match mx,bw s.size s.size hi with
  |none,some h=>match bw h 0 lo with
   |some l=>some (.val (.string (ba (((bl s).drop l).take (h - l)))) H)
   |none=>none
  |_,_=>none
 |some (.slice e),.slice a len cap=>
  match P.info? e with
  |some i=>match bG a i.size len cap lo hi mx with
   |some v=>some (.val v H)
   |none=>none
  |none=>none
 |some (.array n e),.pointer (some ⟨b,off,none⟩)=>
  match P.info? e,mx with
  |some i,none=>
   if n<ff then
    match bw n n hi with
    |some h=>match bw h 0 lo with
     |some l=>some (.val (.slice (some ⟨b,off+l*i.size,none⟩) (h - l) (n - l)) H)
     |none=>none
    |none=>none
   else none
  |_,_=>none
 |_,_=>none
def fI (P:Program) (H:IH) (t:TypeId) (x:Value):Option Value:=
 match P.underlying t,x with
 |some .string,.string s=>some (.int .i64 s.size)
 |some (.array n _),_=>some (.int .i64 n)
 |some (.slice _),.slice _ n _=>some (.int .i64 n)
 |some (.map _ _),.map none=>some (.int .i64 0)
 |some (.map _ _),.map (some r)=>match H.get r with
  |some (.map es _)=>some (.int .i64 es.length)
  |_=>none
 |_,_=>none
def ma (P:Program) (empty:Bool) (kt:TypeId) (k:Value):Bool:=
 match P.underlying kt,k with
 |some (.int _),.int _ _=>true
 |some .string,.string _=>true
 |some .bool,.bool _=>true
 |some (.struct _),.agg cs=>cs.toList.all aU &&(match bR P (Instr.checkKey empty 10000 kt (.agg cs)) with |some _=>true |none=>false)
 |_,_=>false
def gK (P:Program) (kt:TypeId):Value->Value->Option Bool
 | .int k a,.int k' b=>if k=k' then some (a==b) else none
 | .string a,.string b=>some (bl a==bl b)
 | .bool a,.bool b=>some (a==b)
 | .agg a,.agg b=>bR P (Op.equal kt (.agg a) (.agg b))
 |_,_=>none
def iF (P:Program) (kt:TypeId) (k:Value):List MapEntry->Nat->Option (Option (Nat×Value))
 | [],_=>some none
 |e::es,i=>match gK P kt k e.key with
  |some true=>some (some (i,e.val))
  |some false=>iF P kt k es (i+1)
  |none=>none
def zf (k v:Value):List MapEntry->Nat->List MapEntry
 | [],_=> []
 |e::es,0=>{ e with key:=k,val:=v }::es
 |e::es,i+1=>e::zf k v es i
def pr (P:Program) (t:TypeId):Option (TypeId×TypeId):=
 match P.underlying t with
 |some (.map k e)=>some (k,e)
 |_=>none
def valOf (H:IH):Option Value->Option az
 |some v=>some (.val v H)
 |none=>none
def dV (P:Program) (H:IH) (t:TypeId) (x y:Value):Option Bool:=
 match P.underlying t,x,y with
 |some .string,.string a,.string b=>some (bl a==bl b)
 |some (.pointer _),.pointer none,.pointer b=>some b.isNone
 |some (.pointer _),.pointer (some _),.pointer none=>some false
 |some (.pointer e),.pointer (some ⟨b,o,none⟩),.pointer (some ⟨b',o',none⟩)=>
  if b==b' &&((P.info? e).map (·.size)).getD 0 !=0 &&(H.get b).isSome then some (o==o') else none
 |some (.slice _),.slice none _ _,.slice b _ _=>some b.isNone
 |some (.slice _),.slice (some _) _ _,.slice none _ _=>some false
 |some (.map _ _),.map none,.map b=>some b.isNone
 |some (.map _ _),.map (some _),.map none=>some false
 |some (.func _ _ _),.nilFunc,.nilFunc=>some true
 |some (.func _ _ _),.nilFunc,.func _ _ _=>some false
 |some (.func _ _ _),.func _ _ _,.nilFunc=>some false
 |some (.interface _),.nilIface,.iface _ _=>some false
 |some (.interface _),.iface _ _,.nilIface=>some false
 |_,_,_=>none
def s9 (c:UInt8):List UInt8->Nat->Option Nat
 | [],_=>none
 |x::xs,i=>if x==c then some i else s9 c xs (i+1)
def J4 (c:UInt8):List UInt8->Nat
 | []=>0
 |x::xs=>if x==c then J4 c xs+1 else J4 c xs
def gz (P:Program) (H:IH) (fn:Func) (args:List Value):Option (Value×IH):=
 if fn.origin != "" then none else
 if fn.name == "internal/abi.NoEscape" then
  match args with
  | [x]=>some (x,H)
  |_=>none
 else if fn.name == "internal/bytealg.IndexByteString" then
  match args with
  | [.string s,.int .u8 c]=>match s9 (UInt8.ofNat c.toNat) (bl s) 0 with
   |some i=>some (.int .i64 i,H)
   |none=>some (.int .i64 (-1),H)
  |_=>none
 else if fn.name == "internal/bytealg.CountString" then
  match args with
  | [.string s,.int .u8 c]=>some (.int .i64 (J4 (UInt8.ofNat c.toNat) (bl s)),H)
  |_=>none
 else if fn.name == "internal/bytealg.MakeNoZero" then
  match args,fn.resultTypes[0]? with
  | [.int .i64 n],some t=>match cu P t with
   |some (e,i)=>if 0<=n &&n<=roomy &&i.size==1 then some (.slice (some ⟨H.n,0,none⟩) n.toNat (ff+1),H.new (.cells [] e 0 false false)) else none
   |none=>none
  |_,_=>none
 else none
inductive Up where
 |done (v:Value) (H:IH)
 |ended (e:End) (H:IH)
def ij (P:Program) (self:Self) (H:IH) (fv:Value) (args:List Value):Option (End×IH):=
 match fv with
 | .func (.func f) first captured=>match P.funcs[f]? with
  |some fn=>match fn.body with
   |none=>match gz P H fn (first.toList++args++captured.toList) with
    |some (v,H)=>some (.returned v,H)
    |none=>none
   |some _=>self.call f (first.toList++args++captured.toList) H
  |none=>none
 |_=>none
def kP (fi:FI):List Tmp->List Value->En->En
 |t::ts,a::as,E=>kP fi ts as (sH fi t a E)
 |_,_,E=>E
def fT (self:Self) (l:Nat) (args:List Value) (H:IH):Option (Value×IH):=
 match H.get l with
 |some (.loop .ready _ fi E ps eo body)=>
  if ep<=l &&args.length==ps.length then
   match self.code fi (some l) eo (kP fi ps args E) H [] with
   |some (.normal,E1,H1,[])=>
    match H1.get l with
    |some (.loop .ready pd1 fi1 F1 ps1 asg1 body1)=>
     match self.code fi (some l) body E1 (H1.put l (.loop .busy pd1 fi1 F1 ps1 asg1 body1)) [] with
     |some (x,_,H2,[])=>
      match H2.get l with
      |some (.loop _ _ fi2 F2 ps2 asg2 body2)=>
       match x with
       | .normal=>some (.bool true,H2.put l (.loop .ready none fi2 F2 ps2 asg2 body2))
       | .ret=>some (.bool false,H2.put l (.loop .done (some .ret) fi2 F2 ps2 asg2 body2))
       | .exit id=>some (.bool false,H2.put l (.loop .done (some (.exit id)) fi2 F2 ps2 asg2 body2))
       | .panic _=>none
      |_=>none
     |_=>none
    |_=>none
   |_=>none
  else none
 |_=>none
def nO:Option (End×IH)->Option az
 |some (.returned v,H)=>some (.val v H)
 |some (.panicked v,H)=>some (.panic v H)
 |none=>none
def Eo (P:Program) (H:IH) (argTypes:Array TypeId) (d x:Value):Option az:=none
def cI (P:Program) (H:IH) (s:Sem Value):Option az:=
 match bR P s with
 |some v=>if aU v then some (.val v H) else none
 |none=>none
def byteOf:Value->Option UInt8
 | .int .u8 n=>some (UInt8.ofNat n.toNat)
 |_=>none
def bytesOf:List Value->Option (List UInt8)
 | []=>some []
 |v::vs=>match byteOf v,bytesOf vs with
  |some b,some bs=>some (b::bs)
  |_,_=>none
def oN (P:Program) (pt e:TypeId):Bool:=
 match P.underlying pt with
 |some (.pointer e2)=>e2==e
 |_=>false
def ic (P:Program) (H:IH) (argTypes:Array TypeId) (p:Value) (n:Int):Option az:=
 match p with
 | .pointer none=>if n=0 then some (.val (.string (ba [])) H) else none
 | .pointer (some ⟨b,off,none⟩)=>
  if n=0 then some (.val (.string (ba [])) H) else
  match H.get b,argTypes[0]? with
  |some (.cells cs e fz ex sh),some pt=>
   if ep<=b && !sh &&0<=n &&n<=roomy &&off+n.toNat<=cs.length &&P.cellsOf e==1 &&oN P pt e then
    match bytesOf ((cs.drop off).take n.toNat) with
    |some bs=>some (.val (.string (ba bs)) (H.put b (.cells cs e (max fz (off+n.toNat)) ex sh)))
    |none=>none
   else none
  |_,_=>none
 |_=>none
def bj (P:Program) (H:IH) (b:Builtin) (argTypes:Array TypeId) (type:TypeId) (args:List Value):Option az:=
 match b,args with
 | .append,[s,x]=>iC P H argTypes s x
 | .len,[x]=>match argTypes[0]? with
  |some t=>valOf H (fI P H t x)
  |none=>none
 | .cap,[.slice _ _ c]=>match argTypes[0]? with
  |some t=>match P.underlying t with
   |some (.slice _)=>if ff<=c then none else some (.val (.int .i64 c) H)
   |_=>none
  |none=>none
 | .copy,[d,x]=>Eo P H argTypes d x
 | .max,args=>if args.all aU then cI P H (Builtin.max_ argTypes type ⟨args⟩) else none
 | .min,args=>if args.all aU then cI P H (Builtin.min_ argTypes type ⟨args⟩) else none
 | .unsafeSliceData,[.slice none _ _]=>some (.val (.pointer none) H)
 | .unsafeSliceData,[.slice (some a) l _]=>if l=0 then none else some (.val (.pointer (some a)) H)
 | .unsafeString,[p,.int .i64 n]=>if argTypes[0]?.isSome then ic P H argTypes p n else none
 |_,_=>none
def dt (P:Program) (self:Self) (ρ:Operand->Value) (H:IH) (c:Call) (type:TypeId):Option az:=
 let args:=c.args.toList.map ρ
 match c.callee with
 | .builtin b=>bj P H b c.argTypes type args
 | .value f=>match ρ f with
  | .func (.yield l) _ _=>match fT self l args H with
   |some (v,H)=>some (.val v H)
   |none=>none
  |fv=>nO (ij P self H fv args)
 | .invoke _ _=>none
def fc (P:Program) (H:IH) (e:TypeId) (s:ByteArray):Option az:=
 match P.underlying e with
 |some (.int .u8)=>some (.val (.slice (some ⟨H.n,0,none⟩) s.size (ff+1)) (H.new (.cells ((bl s).map fun c=> .int .u8 c.toNat) e 0 false true)))
 |_=>none
def gT (P:Program) (H:IH) (src dst e:TypeId) (b off l c:Nat):Option az:=
 if src==dst then match P.underlying e,H.get b with
  |some (.int .u8),some (.cells cs e' fz ex sh)=>if ep<=b &&fz==0 &&(ex ||sh) then some (.val (.slice (some ⟨b,off,none⟩) l c) (H.put b (.cells cs e' fz ex true))) else none
  |_,_=>none
 else none
def cP (P:Program) (H:IH) (e:TypeId) (x:Value):Option az:=
 match P.underlying e,x with
 |some (.int .u8),.slice none _ _=>some (.val (.string (ba [])) H)
 |some (.int .u8),.slice (some ⟨b,off,none⟩) len _=>
  if len=0 then some (.val (.string (ba [])) H) else
  match H.bf b off len with
  |some cs=>match bytesOf cs with
   |some bs=>some (.val (.string (ba bs)) H)
   |none=>none
  |none=>none
 |_,_=>none
def dB (P:Program) (H:IH) (t:TypeId) (x:Value):Option az:=
 match x with
 | .pointer none=>some (.val (.pointer none) H)
 | .pointer (some ⟨b,off,none⟩)=>match H.get b with
  |some (.cells cs _ _ _ _)=>if P.cellsOf t !=0 &&off<cs.length then some (.val (.pointer (some ⟨b,off,none⟩)) H) else none
  |_=>none
 |_=>none
def cz (P:Program) (H:IH) (u:TypeId) (x:Value):Option az:=
 match x with
 | .pointer none=>some (.val (.pointer none) H)
 | .pointer (some ⟨b,off,none⟩)=>match H.get b with
  |some (.cells cs e _ true _)=>if P.cellsOf u !=0 &&liesAt P P.depth e (cs.length / P.cellsOf e) off u 1 then some (.val (.pointer (some ⟨b,off,none⟩)) H) else none
  |_=>none
 |_=>none
def aQ (P:Program) (H:IH) (src dst:TypeId) (x:Value):Option az:=
 match P.underlying src,P.underlying dst with
 |some (.int _),some (.int k)=>match x with
  | .int _ n=>some (.val (.int k (k.wrap n)) H)
  |_=>none
 |some (.int _),some .string=>match x with
  | .int _ n=>some (.val (.string (Utf8.encode n)) H)
  |_=>none
 |some .string,some .string=>match x with
  | .string s=>some (.val (.string s) H)
  |_=>none
 |some .string,some (.slice e)=>match x with
  | .string s=>fc P H e s
  |_=>none
 |some (.slice _),some (.slice e)=>match x with
  | .slice (some ⟨b,off,none⟩) l c=>gT P H src dst e b off l c
  |_=>none
 |some (.slice e),some .string=>cP P H e x
 |some (.pointer t),some .unsafePointer=>dB P H t x
 |some .unsafePointer,some (.pointer u)=>cz P H u x
 |_,_=>none
def nZ (H:IH) (c a b:Value):Option az:=
 match c with
 | .bool t=>some (.val (if t then a else b) H)
 |_=>none
def fR (P:Program) (H:IH) (e:TypeId):Option az:=
 match zeroOf P e with
 |some z=>some (.val (ptrTo H.n) (bO H e z.cells.toList))
 |none=>none
def o7 (H:IH) (e:TypeId) (v:Value):Option az:=
 if P8 v then some (.val (ptrTo H.n) (bO H e v.cells.toList)) else none
def placesOf (P:Program):List Field->Option (List (Nat×Nat))
 | []=>some []
 |f::fs=>match P.info? f.type,placesOf P fs with
  |some i,some r=>some ((f.offset,i.size)::r)
  |_,_=>none
def ka (P:Program) (H:IH) (t:TypeId) (ps:List (Nat×Value)):Option az:=
 if ps.all (fun p=>P8 p.2) then
  match zeroOf P t with
  |some z=>
   match P.underlying t with
   |some (.struct fs)=>match placesOf P fs.toList with
    |some places=>match Instr.fill (fun i=>places[i]?) z.cells ps with
     |some cells=>some (.val (.agg cells) H)
     |none=>none
    |none=>none
   |some (.array _ e)=>match P.info? e with
    |some i=>match Instr.fill (fun j=>some (j*i.size,i.size)) z.cells ps with
     |some cells=>some (.val (.agg cells) H)
     |none=>none
    |none=>none
   |_=>none
  |none=>none
 else none
def aZ (P:Program) (H:IH) (t:TypeId) (len:Nat) (ps:List (Nat×Value)):Option az:=
 match cu P t with
 |some (e,i)=>
  if len*(i.size+1)<=2^24 &&ps.all (fun p=>P8 p.2) then
   match zeroOf P e with
   |some z=>
    if z.cells.size=i.size then
     match Instr.fill (fun j=>some (j*i.size,i.size)) ⟨eY z.cells.toList len⟩ ps with
     |some cells=>some (.val (.slice (some ⟨H.n,0,none⟩) len len) (bO H e cells.toList))
     |none=>none
    else none
   |none=>none
  else none
 |none=>none
def dc (P:Program) (H:IH) (t:TypeId) (a:Value):Option az:=
 match a with
 | .pointer (some ⟨b,off,none⟩)=>match l7 P H t b off with
  |some v=>some (.val v H)
  |none=>none
 |_=>none
def bK (P:Program) (H:IH) (t:TypeId) (a v:Value):Option az:=
 match a with
 | .pointer (some ⟨b,off,none⟩)=>match nr P H t b off v with
  |some H=>some (.skip H)
  |none=>none
 |_=>none
def eV (H:IH) (x:Value):Option az:=
 match x with
 | .pointer (some a)=>some (.val (.pointer (some a)) H)
 | .func (.func f) x y=>some (.val (.func (.func f) x y) H)
 | .func (.yield l) x y=>some (.val (.func (.yield l) x y) H)
 |_=>none
def bP (P:Program) (H:IH) (neg:Bool) (t:TypeId) (x y:Operand) (a b:Value):Option az:=
 match a,b with
 | .int k n,.int k' m=>if k=k' then some (.val (.bool (if neg then n !=m else n==m)) H) else none
 | .string s,.string r=>some (.val (.bool (if neg then !(bl s==bl r) else bl s==bl r)) H)
 |a,b=>match dV P H t a b with
  |some r=>some (.val (.bool (if neg then !r else r)) H)
  |none=>if free a &&free b then
    match bR P (do eqGuard (if neg then .neq else .eql) t x y a b;Go.binOp (if neg then .neq else .eql) t a b) with
    |some v=>if aU v then some (.val v H) else none
    |none=>none
   else none
def ak:Int->Int->Bool
 | .ofNat a,.ofNat b=>Nat.ble a b
 | .ofNat _,.negSucc _=>false
 | .negSucc _,.ofNat _=>true
 | .negSucc a,.negSucc b=>Nat.ble b a
theorem dn (a b:Int):ak a b=decide (a<=b):=by
 cases a<;>cases b<;>simp only [ak]<;>rw [Bool.eq_iff_iff]<;>simp [Nat.ble_eq]<;>omega
def aD (a b:Int):Bool:= !ak b a
theorem fu (a b:Int):aD a b=decide (a<b):=by
 simp only [aD,dn];rw [Bool.eq_iff_iff];simp
def aX (P:Program) (H:IH) (op:BinOp) (t:TypeId) (x y:Operand) (a b:Value):Option az:=
 match op with
 | .eql=>bP P H false t x y a b
 | .neq=>bP P H true t x y a b
 | .lss=>match a,b with
  | .int k n,.int k' m=>if k=k' then some (.val (.bool (aD n m)) H) else none
  | .string s,.string r=>some (.val (.bool (Op.bytesLess (bl s) (bl r))) H)
  |_,_=>none
 | .leq=>match a,b with
  | .int k n,.int k' m=>if k=k' then some (.val (.bool (ak n m)) H) else none
  |_,_=>none
 | .gtr=>match a,b with
  | .int k n,.int k' m=>if k=k' then some (.val (.bool (aD m n)) H) else none
  |_,_=>none
 | .geq=>match a,b with
  | .int k n,.int k' m=>if k=k' then some (.val (.bool (ak m n)) H) else none
  |_,_=>none
 | .add=>match a,b with
  | .int k n,.int k' m=>if k=k' then some (.val (.int k (k.wrap (n+m))) H) else none
  | .string s,.string r=>if s.size+r.size<=roomy then some (.val (.string (ba (bl s++bl r))) H) else none
  |_,_=>none
 | .sub=>match a,b with
  | .int k n,.int k' m=>if k=k' then some (.val (.int k (k.wrap (n - m))) H) else none
  |_,_=>none
 |op=>match a,b with
  | .int k n,.int k' m=>match bR P (Go.binOp op t (.int k n) (.int k' m)) with
   |some v=>if aU v then some (.val v H) else none
   |none=>none
  |_,_=>none
def DL (P:Program) (H:IH) (op:UnOp) (a:Value):Option az:=
 match a with
 | .bool b=>match op with
  | .not=>some (.val (.bool !b) H)
  |_=>none
 | .int k n=>match bR P (Op.unary op (.int k n)) with
  |some v=>if aU v then some (.val v H) else none
  |none=>none
 |_=>none
def e8 (P:Program) (H:IH) (t:TypeId) (v:Value):Option az:=
 match P.underlying t with
 |some (.interface _)=>none
 |some _=>some (.val (.iface t v) H)
 |none=>none
def bZ (P:Program) (H:IH) (t:TypeId) (hint:Option Value):Option az:=
 match hint with
 |none=>some (.val (.map (some H.n)) (H.new (.map [] 0)))
 |some h=>match P.underlying t,h with
  |some (.map _ _),.int _ _=>some (.val (.map (some H.n)) (H.new (.map [] 0)))
  |_,_=>none
def cB (P:Program) (H:IH) (t:TypeId) (l c:Value):Option az:=
 match cu P t,l,c with
 |some (e,i),.int .i64 l,.int .i64 c=>
  if 0<=l &&l<=c &&c*(i.bytes+1)<=roomy then
   match zeroOf P e with
   |some z=>if z.cells.size=i.size then some (.val (.slice (some ⟨H.n,0,none⟩) l.toNat c.toNat) (bO H e (eY z.cells.toList c.toNat))) else none
   |none=>none
  else none
 |_,_,_=>none
def cD (P:Program) (H:IH) (s:TypeId) (x:Value) (f:Nat):Option az:=
 match P.underlying s,x with
 |some (.struct fs),.pointer (some ⟨b,off,none⟩)=>match fs[f]? with
  |some fd=>match P.info? fd.type with
   |some i=>if i.size=0 then none else some (.val (.pointer (some ⟨b,off+fd.offset,none⟩)) H)
   |none=>none
  |none=>none
 |_,_=>none
def partOf (P:Program) (t:TypeId) (cs:List Value) (off:Nat):Option Value:=
 match gI P t with
 |some true=>match P.info? t with
  |some i=>some (.agg ⟨(cs.drop off).take i.size⟩)
  |none=>none
 |some false=>cs[off]?
 |none=>none
def kj (P:Program) (H:IH) (t:TypeId) (x:Value) (f:Nat):Option az:=
 match P.underlying t,x with
 |some (.struct fs),.agg cs=>match fs[f]? with
  |some fd=>valOf H (partOf P fd.type cs.toList fd.offset)
  |none=>none
 |_,_=>none
def bm (P:Program) (H:IH) (t:TypeId) (x ix:Value):Option az:=
 match P.underlying t,x,ix with
 |some (.array n e),.pointer (some ⟨b,off,none⟩),.int _ i=>match P.info? e with
  |some inf=>if 0<=i &&i<(n:Int) then some (.val (.pointer (some ⟨b,off+i.toNat*inf.size,none⟩)) H) else none
  |none=>none
 |some (.slice e),.slice (some ⟨b,off,none⟩) len _,.int _ i=>match P.info? e with
  |some inf=>if 0<=i &&i<(len:Int) then some (.val (.pointer (some ⟨b,off+i.toNat*inf.size,none⟩)) H) else none
  |none=>none
 |_,_,_=>none
def jg (P:Program) (H:IH) (t:TypeId) (x ix:Value):Option az:=
 match P.underlying t,x,ix with
 |some .string,.string s,.int _ i=>if 0<=i then
   match (bl s)[i.toNat]? with
   |some c=>some (.val (.int .u8 c.toNat) H)
   |none=>none
  else none
 |some (.array n e),.agg cs,.int _ i=>if 0<=i &&i<(n:Int) then
   match P.info? e with
   |some inf=>valOf H (partOf P e cs.toList (i.toNat*inf.size))
   |none=>none
  else none
 |_,_,_=>none
def jl (ok:Bool) (v:Value) (there:Bool):Value:=if ok then .tuple #[v,.bool there] else v
def cN (P:Program) (H:IH) (t:TypeId) (x k:Value) (ok:Bool):Option az:=
 match pr P t,x with
 |some (kt,e),.map (some r)=>match H.get r with
  |some (.map es _)=>if ma P es.isEmpty kt k then
    match iF P kt k es 0 with
    |some (some (_,v))=>some (.val (jl ok v true) H)
    |some none=>match zeroOf P e with
     |some z=>some (.val (jl ok z false) H)
     |none=>none
    |none=>none
   else none
  |_=>none
 |some (kt,e),.map none=>if ma P true kt k then match zeroOf P e with
   |some z=>some (.val (jl ok z false) H)
   |none=>none
  else none
 |_,_=>none
def fw (P:Program) (H:IH) (t:TypeId) (m k v:Value):Option az:=
 match pr P t,m with
 |some (kt,_),.map (some r)=>if r<ep then none else match H.get r with
  |some (.map es ck)=>if ma P false kt k then match iF P kt k es 0 with
   |some (some (i,_))=>match es[i]? with
    |some e=>if Instr.sameBits 10000 e.key k then some (.skip (H.put r (.map (zf k v es i) ck))) else none
    |none=>none
   |some none=>some (.skip (H.put r (.map (es++ [{ key:=k,val:=v,born:=ck }]) (ck+1))))
   |none=>none
   else none
  |_=>none
 |_,_=>none
def qj (P:Program) (H:IH) (t:TypeId) (x:Value):Option az:=
 match P.underlying t,x with
 |some .string,.string s=>some (.val (ptrTo H.n) (H.new (.eM s 0)))
 |_,_=>none
def qM (H:IH) (it:Value):Option az:=
 match it with
 | .pointer (some ⟨r,0,none⟩)=>match H.get r with
  |some (.eM s pos)=>
   if r<ep then none else
   if pos<s.size then
    some (.val (.tuple #[.bool true,.int .i64 pos,.int .i32 (Utf8.decode s pos).1]) (H.put r (.eM s (pos+(Utf8.decode s pos).2))))
   else some (.val (.tuple #[.bool false]) H)
  |_=>none
 |_=>none
def fE (P:Program) (H:IH) (x:Value) (asserted:TypeId) (ok:Bool):Option az:=none
def fO (H:IH) (tp:Value) (i:Nat):Option az:=
 match tp with
 | .tuple vs=>valOf H vs.toList[i]?
 |_=>none
def oJ (H:IH) (f:Value) (args:List Value):Option az:=
 match f with
 | .func fn first captured=>if fW fn then some (.defer { target:= .fn fn captured,args:=⟨first.toList++args⟩ } H) else none
 |_=>none
def tH (H:IH) (x:Value):Option az:=
 match x with
 | .iface t v=>some (.panic (.iface t v) H)
 |_=>none
def aG (P:Program) (self:Self) (ρ:Operand->Value) (H:IH) (o:Oper):Option az:=
 match o.op with
 | .move x | .assign x=>some (.val (ρ x) H)
 | .pick c a b=>nZ H (ρ c) (ρ a) (ρ b)
 | .alloc e=>fR P H e
 | .box e x=>o7 H e (ρ x)
 | .build t parts=>ka P H t (parts.toList.map fun p=>(p.1,ρ p.2))
 | .buildSlice t len parts=>aZ P H t len (parts.toList.map fun p=>(p.1,ρ p.2))
 | .load t a=>dc P H t (ρ a)
 | .store t a x=>bK P H t (ρ a) (ρ x)
 | .nilCheck x=>eV H (ρ x)
 | .binOp op t x y _=>aX P H op t x y (ρ x) (ρ y)
 | .unOp op _ x=>DL P H op (ρ x)
 | .convert src dst x=>aQ P H src dst (ρ x)
 | .makeInterface t x=>e8 P H t (ρ x)
 | .makeFunc fn first captured=>if fW fn then some (.val (.func fn ⟨first.toList.map ρ⟩ ⟨captured.toList.map ρ⟩) H) else none
 | .makeMap t r=>bZ P H t (r.map ρ)
 | .makeSlice t l c=>cB P H t (ρ l) (ρ c)
 | .slice t x lo hi mx=>cU P H t (ρ x) (lo.map ρ) (hi.map ρ) (mx.map ρ)
 | .fieldAddr s x f=>cD P H s (ρ x) f
 | .field t x f=>kj P H t (ρ x) f
 | .indexAddr t x ix=>bm P H t (ρ x) (ρ ix)
 | .index t x ix=>jg P H t (ρ x) (ρ ix)
 | .lookup t x k ok=>cN P H t (ρ x) (ρ k) ok
 | .mapUpdate t m k x | .insert t m k x=>fw P H t (ρ m) (ρ k) (ρ x)
 | .range t x=>qj P H t (ρ x)
 | .next it true=>qM H (ρ it)
 | .typeAssert x _ asserted ok=>fE P H (ρ x) asserted ok
 | .extract tp i=>fO H (ρ tp) i
 | .call c=>dt P self ρ H c o.type
 | .defer c=>match c.callee with
  | .value f=>oJ H (ρ f) (c.args.toList.map ρ)
  |_=>none
 | .panic x=>tH H (ρ x)
 |_=>none
end
end Go.Iv
