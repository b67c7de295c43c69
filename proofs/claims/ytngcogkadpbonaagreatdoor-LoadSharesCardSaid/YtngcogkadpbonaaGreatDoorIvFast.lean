/- The same evaluator in a form that the kernel runs fast: each choice by the type's own recursor, each branch a small closed piece. -/
import Derived.Test.YtngcogkadpbonaaGreatDoorIvFastA
set_option linter.unusedSimpArgs false
set_option linter.unusedVariables false
namespace Go.Iv
open Go
noncomputable def SJ (H:IH) (r:Option (List Value)):Option al:=@Option.rec (List Value) (fun _=>Option al) none (fun l=>some (.val (.agg ⟨l⟩) H)) r
noncomputable def CL (P:Program) (H:IH) (t:TypeId) (ps:List (Nat×Value)) (z:Value):Option al:=
 match P.underlying t with
 |some (.struct fs)=>match placesOf P fs.toList with
  |some places=>SJ H (dM (fun i=>places[i]?) z.cells.size ps z.cells.toList)
  |none=>none
 |some (.array _ e)=>match P.info? e with
  |some i=>SJ H (dM (fun j=>some (j*i.size,i.size)) z.cells.size ps z.cells.toList)
  |none=>none
 |_=>none
noncomputable def gA (P:Program) (H:IH) (t:TypeId) (ps:List (Nat×Value)):Option al:=
 @Bool.rec (fun _=>Option al) none (@Option.rec Value (fun _=>Option al) none (CL P H t ps) (zeroOf P t)) (ps.all fun p=>Qf p.2)
theorem k7 (P:Program) (H:IH) (t:TypeId) (ps:List (Nat×Value)):gA P H t ps=dp P H t ps:=by
 have agg:∀ (pl:Nat->Option (Nat×Nat)) (cs:Array Value),SJ H (dM pl cs.size ps cs.toList)=(match Instr.fill pl cs ps with |some cells=>some (.val (.agg cells) H) |none=>none):=by
  intro pl cs;rw [fill_eq];cases dM pl cs.size ps cs.toList<;>rfl
 unfold gA dp;cases ps.all fun p=>Qf p.2 with
 |false=>rfl
 |true=>
  simp only [if_true];cases zeroOf P t with
  |none=>rfl
  |some z=>
   simp only [CL];cases P.underlying t with
   |none=>rfl
   |some d=>
    cases d with
    |struct fs=>
     simp only;cases placesOf P fs.toList with
     |none=>rfl
     |some places=>simp only;rw [agg];rfl
    |array n e=>
     simp only;cases P.info? e with
     |none=>rfl
     |some i=>simp only;rw [agg];rfl
    |_=>rfl
noncomputable def Ui (H:IH) (e:TypeId) (len:Nat) (r:Option (List Value)):Option al:=@Option.rec (List Value) (fun _=>Option al) none (fun l=>some (.val (.slice (some ⟨H.n,0,none⟩) len len) (a4 H e l))) r
noncomputable def cX (P:Program) (H:IH) (t:TypeId) (len:Nat) (ps:List (Nat×Value)):Option al:=
 match bG P t with
 |some (e,i)=>
  if len*(i.size+1)<=2^24 &&ps.all (fun p=>Qf p.2) then
   match zeroOf P e with
   |some z=>
    if z.cells.size=i.size then Ui H e len (dM (fun j=>some (j*i.size,i.size)) (c0 z.cells.toList len).length ps (c0 z.cells.toList len)) else none
   |none=>none
  else none
 |none=>none
theorem fF (P:Program) (H:IH) (t:TypeId) (len:Nat) (ps:List (Nat×Value)):cX P H t len ps=aZ P H t len ps:=by
 have slc:∀ (pl:Nat->Option (Nat×Nat)) (e:TypeId) (cs:List Value),Ui H e len (dM pl cs.length ps cs)=(match Instr.fill pl ⟨cs⟩ ps with |some cells=>some (al.val (.slice (some ⟨H.n,0,none⟩) len len) (a4 H e cells.toList)) |none=>none):=by
  intro pl e cs;rw [fill_eq]
  show _=(match (dM pl cs.length ps cs).map fun l=>(⟨l⟩:Array Value) with |some cells=>some (al.val (.slice (some ⟨H.n,0,none⟩) len len) (a4 H e cells.toList)) |none=>none)
  cases dM pl cs.length ps cs<;>rfl
 unfold cX aZ;cases bG P t with
 |none=>rfl
 |some ei=>
  obtain ⟨e,i⟩:=ei;simp only;split
  ·cases zeroOf P e with
   |none=>rfl
   |some z=>
    simp only;split
    ·exact slc _ _ _
    ·rfl
  ·rfl
noncomputable def sm (n off:Nat) (o:Option aq):Option (List Value):=
 match o with
 |some (.cells cs _ _ _ _)=>Fj n (MO off cs)
 |_=>none
theorem ux (H:IH) (b off n:Nat) (hn:n≠0):sm n off (H.get b)=H.aV b off n:=by
 unfold sm IH.aV;cases H.get b with
 |none=>rfl
 |some o=>
  cases o with
  |cells cs e fz ex sh=>
   simp only;rw [LM,LA];by_cases h:off+n<=cs.length
   ·rw [if_pos (by simp;omega),if_pos h]
   ·rw [if_neg (by simp;omega),if_neg h]
  |_=>rfl
noncomputable def RP (off:Nat) (o:Option aq):Option Value:=
 match o with
 |some (.cells cs _ _ _ _)=>FL cs off
 |_=>none
noncomputable def U2 (r:Option (List Value)):Option Value:=@Option.rec (List Value) (fun _=>Option Value) none (fun l=>some (.agg ⟨l⟩)) r
noncomputable def Um (P:Program) (H:IH) (t:TypeId) (b off:Nat):Option Value:=
 match dF P t with
 |some true=>match P.info? t with
  |some i=>@Bool.rec (fun _=>Option Value) (U2 (sm i.size off (H.get b))) (fK P H t b off) (Nat.beq i.size 0)
  |none=>none
 |some false=>RP off (H.get b)
 |none=>none
theorem Sw (P:Program) (H:IH) (t:TypeId) (b off:Nat):Um P H t b off=fK P H t b off:=by
 unfold Um fK;cases dF P t with
 |none=>rfl
 |some x=>
  cases x with
  |true=>
   simp only;cases P.info? t with
   |none=>rfl
   |some i=>
    simp only;cases hz:Nat.beq i.size 0 with
    |true=>rfl
    |false=>
     simp only;rw [ux H b off i.size (Nat.ne_of_beq_eq_false hz)];unfold U2;cases H.aV b off i.size<;>rfl
  |false=>
   simp only;unfold RP;cases H.get b with
   |none=>rfl
   |some o=>
    cases o with
    |cells cs e fz ex sh=>exact jc cs off
    |_=>rfl
noncomputable def RM (H:IH) (b:Nat) (e:TypeId) (fz:Nat) (ex sh:Bool) (r:Option (List Value)):Option IH:=@Option.rec (List Value) (fun _=>Option IH) none (fun cs=>some (H.put b (.cells cs e fz ex sh))) r
noncomputable def Ww (H:IH) (b off:Nat) (v:Value):Option IH:=
 match H.get b with
 |some (.cells cs e fz ex sh)=>@Bool.rec (fun _=>Option IH) none (RM H b e fz ex sh (R2 off v cs)) (Et (Nat.ble dB b) (Et (Nat.ble fz off) (one v)))
 |_=>none
theorem eJ (a b:Nat):Nat.ble a b=decide (a<=b):=by
 cases h:Nat.ble a b with
 |true=>exact (decide_eq_true (Nat.le_of_ble_eq_true h)).symm
 |false=>exact (decide_eq_false fun x=>by rw [Nat.ble_eq_true_of_le x] at h;cases h).symm
theorem Sn (H:IH) (b off:Nat) (v:Value):Ww H b off v=H.cr b off [v]:=by
 unfold Ww IH.cr;simp only [List.isEmpty_cons,Bool.false_eq_true,if_false];cases H.get b with
 |none=>rfl
 |some o=>
  cases o with
  |cells cs e fz ex sh=>
   simp only [s7,eJ,RD,RM,List.length_singleton,List.all_cons,List.all_nil,Bool.and_true];by_cases h1:dB<=b<;>by_cases h2:fz<=off<;>by_cases h3:off+1<=cs.length<;>cases one v<;>simp [h1,h2,h3]
  |_=>rfl
noncomputable def iP (r:Option IH):Option al:=@Option.rec IH (fun _=>Option al) none (fun H=>some (.skip H)) r
noncomputable def WB (P:Program) (H:IH) (t:TypeId) (v:Value) (b off:Nat):Option al:=
 match dF P t with
 |some false=>match P.info? t,v with
  |some i,.agg cs=>iP (if cs.size=i.size then H.cr b off cs.toList else none)
  |some i,v=>@Bool.rec (fun _=>Option al) none (iP (Ww H b off v)) (Nat.beq i.size 1)
  |none,_=>none
 |_=>iP (et P H t b off v)
theorem S9 (P:Program) (H:IH) (t:TypeId) (v:Value) (b off:Nat):WB P H t v b off=(match et P H t b off v with |some H=>some (.skip H) |none=>none):=by
 have sk:∀ r:Option IH,iP r=(match r with |some H=>some (.skip H) |none=>none):=fun r=>by cases r<;>rfl
 have one_:∀ (i:TypeInfo) (v:Value),P.info? t=some i->v.cells=#[v]->@Bool.rec (fun _=>Option al) none (iP (Ww H b off v)) (Nat.beq i.size 1)=(match et P H t b off v with |some H=>some (.skip H) |none=>none):=by
  intro i v hi hc;unfold et;rw [hi];simp only [hc,Sn,sk];cases hz:Nat.beq i.size 1 with
  |true=>
   have:=Nat.eq_of_beq_eq_true hz;rw [if_pos (by simpa using this.symm)]
  |false=>
   have:=Nat.ne_of_beq_eq_false hz;rw [if_neg (by simpa using fun e:1=i.size=>this e.symm)]
 unfold WB;cases dF P t with
 |none=>exact sk _
 |some x=>
  cases x with
  |true=>exact sk _
  |false=>
   simp only;cases hi:P.info? t with
   |none=>
    have:et P H t b off v=none:=by unfold et;rw [hi]
    rw [this]
   |some i=>
    cases v with
    |agg cs=>
     show iP _=_
     rw [sk];unfold et;rw [hi];rfl
    |_=>exact one_ i _ hi rfl
noncomputable def eW (P:Program) (H:IH) (t:TypeId) (a:Value):Option al:=
 match a with
 | .pointer (some ⟨b,off,none⟩)=>@Option.rec Value (fun _=>Option al) none (fun v=>some (.val v H)) (Um P H t b off)
 |_=>none
theorem sg (P:Program) (H:IH) (t:TypeId) (a:Value):eW P H t a=eI P H t a:=by
 unfold eW eI;cases a with
 |pointer p=>
  cases p with
  |none=>rfl
  |some ad=>
   obtain ⟨b,off,sp⟩:=ad;cases sp with
   |none=>simp only;rw [Sw];cases fK P H t b off<;>rfl
   |some _=>rfl
 |_=>rfl
noncomputable def g6 (P:Program) (H:IH) (t:TypeId) (a v:Value):Option al:=
 match a with
 | .pointer (some ⟨b,off,none⟩)=>WB P H t v b off
 |_=>none
theorem o5 (P:Program) (H:IH) (t:TypeId) (a v:Value):g6 P H t a v=fo P H t a v:=by
 unfold g6 fo;cases a with
 |pointer p=>
  cases p with
  |none=>rfl
  |some ad=>
   obtain ⟨b,off,sp⟩:=ad;cases sp with
   |none=>exact S9 P H t v b off
   |some _=>rfl
 |_=>rfl
noncomputable def HU (i:Int) (n:Nat):Option Nat:=@Int.rec (fun _=>Option Nat) (fun a=>@Bool.rec (fun _=>Option Nat) none (some a) (Nat.ble (Nat.succ a) n)) (fun _=>none) i
theorem Pw (i:Int) (n:Nat):HU i n=if 0<=i &&i<(n:Int) then some i.toNat else none:=by
 cases i with
 |ofNat a=>
  show @Bool.rec (fun _=>Option Nat) none (some a) (Nat.ble (Nat.succ a) n)=_
  rw [eJ];by_cases h:a<n
  ·rw [decide_eq_true (show Nat.succ a<=n from h)];simp [h]
  ·rw [decide_eq_false (show ¬ Nat.succ a<=n from h)];simp [h]
 |negSucc a=>simp [HU]
noncomputable def I6 (H:IH) (b off size:Nat) (r:Option Nat):Option al:=@Option.rec Nat (fun _=>Option al) none (fun i=>some (.val (.pointer (some ⟨b,Nat.add off (Nat.mul i size),none⟩)) H)) r
noncomputable def de (P:Program) (H:IH) (t:TypeId) (x ix:Value):Option al:=
 match P.underlying t,x,ix with
 |some (.array n e),.pointer (some ⟨b,off,none⟩),.int _ i=>match P.info? e with
  |some inf=>I6 H b off inf.size (HU i n)
  |none=>none
 |some (.slice e),.slice (some ⟨b,off,none⟩) len _,.int _ i=>match P.info? e with
  |some inf=>I6 H b off inf.size (HU i len)
  |none=>none
 |_,_,_=>none
theorem gj (P:Program) (H:IH) (t:TypeId) (x ix:Value):de P H t x ix=bd P H t x ix:=by
 have pt:∀ (b off size n:Nat) (i:Int),I6 H b off size (HU i n)=if 0<=i &&i<(n:Int) then some (.val (.pointer (some ⟨b,off+i.toNat*size,none⟩)) H) else none:=by
  intro b off size n i;rw [Pw];split<;>rfl
 unfold de bd;simp only [pt];rfl
section ops
variable (P:Program) (self:Self)
noncomputable def hZ (_:Operand->Value) (_:IH):Option al:=none
noncomputable def RN (x:Operand) (Z:Operand->Value) (H:IH):Option al:=some (.val (Z x) H)
noncomputable def RW (c a b:Operand) (Z:Operand->Value) (H:IH):Option al:=fy H (Z c) (Z a) (Z b)
noncomputable def JK (e:TypeId) (_:Operand->Value) (H:IH):Option al:=dq P H e
noncomputable def VJ (e:TypeId) (x:Operand) (Z:Operand->Value) (H:IH):Option al:=gM H e (Z x)
noncomputable def Ex (t:TypeId) (parts:Array (Nat×Operand)) (Z:Operand->Value) (H:IH):Option al:=gA P H t (parts.toList.map fun p=>(p.1,Z p.2))
noncomputable def fQ (t:TypeId) (len:Nat) (parts:Array (Nat×Operand)) (Z:Operand->Value) (H:IH):Option al:=cX P H t len (parts.toList.map fun p=>(p.1,Z p.2))
noncomputable def gu (t:TypeId) (m k v:Operand) (Z:Operand->Value) (H:IH):Option al:=fe P H t (Z m) (Z k) (Z v)
noncomputable def VS (t:TypeId) (a:Operand) (Z:Operand->Value) (H:IH):Option al:=eW P H t (Z a)
noncomputable def Jg (t:TypeId) (a v:Operand) (Z:Operand->Value) (H:IH):Option al:=g6 P H t (Z a) (Z v)
noncomputable def UK (x:Operand) (Z:Operand->Value) (H:IH):Option al:=bT H (Z x)
noncomputable def b2 (f:IntKind->Int->Int->Value) (alt:Option al) (H:IH) (a b:Value):Option al:=
 match a,b with
 | .int k n,.int k' m=>if k=k' then some (.val (f k n m) H) else none
 |_,_=>alt
noncomputable def jj (op:BinOp) (t:TypeId) (x y:Operand) (a b:Value) (H:IH):Option al:=aI P H op t x y a b
noncomputable def WO (t:TypeId) (x y:Operand) (a b:Value) (H:IH):Option al:=b2 (fun k n m=> .int k (oM k (Se n m))) (aI P H .add t x y a b) H a b
noncomputable def WH (t:TypeId) (x y:Operand) (a b:Value) (H:IH):Option al:=b2 (fun k n m=> .int k (oM k (n - m))) (aI P H .sub t x y a b) H a b
noncomputable def WQ (t:TypeId) (x y:Operand) (a b:Value) (H:IH):Option al:=b2 (fun _ n m=> .bool (RS n m)) (aI P H .lss t x y a b) H a b
noncomputable def Xe (t:TypeId) (x y:Operand) (a b:Value) (H:IH):Option al:=b2 (fun _ n m=> .bool (PF n m)) (aI P H .leq t x y a b) H a b
noncomputable def W9 (t:TypeId) (x y:Operand) (a b:Value) (H:IH):Option al:=b2 (fun _ n m=> .bool (RS m n)) (aI P H .gtr t x y a b) H a b
noncomputable def WV (t:TypeId) (x y:Operand) (a b:Value) (H:IH):Option al:=b2 (fun _ n m=> .bool (PF m n)) (aI P H .geq t x y a b) H a b
noncomputable def WC (t:TypeId) (x y:Operand) (a b:Value) (H:IH):Option al:=b2 (fun _ n m=> .bool (n==m)) (aI P H .eql t x y a b) H a b
noncomputable def WE (t:TypeId) (x y:Operand) (a b:Value) (H:IH):Option al:=b2 (fun _ n m=> .bool (n !=m)) (aI P H .neq t x y a b) H a b
noncomputable def JE (op:BinOp) (t:TypeId) (x y:Operand) (_:TypeId) (Z:Operand->Value) (H:IH):Option al:=
 @BinOp.rec (fun _=>TypeId->Operand->Operand->Value->Value->IH->Option al) (WO P) (WH P) (jj P .mul) (jj P .quo) (jj P .rem) (jj P .and) (jj P .or) (jj P .xor) (jj P .shl) (jj P .shr) (jj P .andNot)
  (WC P) (WE P) (WQ P) (Xe P) (W9 P) (WV P) op t x y (Z x) (Z y) H
theorem PI (op:BinOp) (t:TypeId) (x y:Operand) (yt:TypeId) (Z:Operand->Value) (H:IH):JE P op t x y yt Z H=aI P H op t x y (Z x) (Z y):=by
 have key:∀ (f:IntKind->Int->Int->Value) (op:BinOp),(∀ k n m,aI P H op t x y (.int k n) (.int k m)=some (.val (f k n m) H))->(∀ k k' n m,k≠k'->aI P H op t x y (.int k n) (.int k' m)=none)->
   ∀ a b,b2 f (aI P H op t x y a b) H a b=aI P H op t x y a b:=by
  intro f op h1 h2 a b;unfold b2;split
  ·split
   ·rename_i h;subst h;exact (h1 _ _ _).symm
   ·rename_i h;exact (h2 _ _ _ _ h).symm
  ·rfl
 unfold JE;cases op
 case add=>exact key _ _ (fun k n m=>by simp only [aI,if_true,rI,Rw]) (fun k k' n m h=>by simp only [aI,if_neg h]) _ _
 case sub=>exact key _ _ (fun k n m=>by simp only [aI,if_true,rI]) (fun k k' n m h=>by simp only [aI,if_neg h]) _ _
 case lss=>exact key _ _ (fun k n m=>by simp only [aI,if_true]) (fun k k' n m h=>by simp only [aI,if_neg h]) _ _
 case leq=>exact key _ _ (fun k n m=>by simp only [aI,if_true]) (fun k k' n m h=>by simp only [aI,if_neg h]) _ _
 case gtr=>exact key _ _ (fun k n m=>by simp only [aI,if_true]) (fun k k' n m h=>by simp only [aI,if_neg h]) _ _
 case geq=>exact key _ _ (fun k n m=>by simp only [aI,if_true]) (fun k k' n m h=>by simp only [aI,if_neg h]) _ _
 case eql=>exact key _ _ (fun k n m=>by simp [aI,cV]) (fun k k' n m h=>by simp [aI,cV,h]) _ _
 case neq=>exact key _ _ (fun k n m=>by simp [aI,cV]) (fun k k' n m h=>by simp [aI,cV,h]) _ _
 all_goals rfl
noncomputable def Xm (op:UnOp) (_:TypeId) (x:Operand) (Z:Operand->Value) (H:IH):Option al:=x4 P H op (Z x)
noncomputable def RH (s d:TypeId) (x:Operand) (Z:Operand->Value) (H:IH):Option al:=bX P H s d (Z x)
noncomputable def TY (t:TypeId) (x:Operand) (Z:Operand->Value) (H:IH):Option al:=bC P H t (Z x)
noncomputable def Td (fn:Fn) (a c:Array Operand) (Z:Operand->Value) (H:IH):Option al:=if bY fn then some (.val (.func fn ⟨a.toList.map Z⟩ ⟨c.toList.map Z⟩) H) else none
noncomputable def TE (t:TypeId) (r:Option Operand) (Z:Operand->Value) (H:IH):Option al:=bW P H t (r.map Z)
noncomputable def Vl (t:TypeId) (l c:Operand) (Z:Operand->Value) (H:IH):Option al:=a9 P H t (Z l) (Z c)
noncomputable def Cy (t:TypeId) (x:Operand) (lo hi mx:Option Operand) (Z:Operand->Value) (H:IH):Option al:=eg P H t (Z x) (lo.map Z) (hi.map Z) (mx.map Z)
noncomputable def Xg (s:TypeId) (x:Operand) (f:Nat) (Z:Operand->Value) (H:IH):Option al:=bE P H s (Z x) f
noncomputable def Xl (s:TypeId) (x:Operand) (f:Nat) (Z:Operand->Value) (H:IH):Option al:=dZ P H s (Z x) f
noncomputable def Xn (t:TypeId) (x i:Operand) (Z:Operand->Value) (H:IH):Option al:=de P H t (Z x) (Z i)
noncomputable def Xj (t:TypeId) (x i:Operand) (Z:Operand->Value) (H:IH):Option al:=ea P H t (Z x) (Z i)
noncomputable def Xh (t:TypeId) (x k:Operand) (ok:Bool) (Z:Operand->Value) (H:IH):Option al:=da P H t (Z x) (Z k) ok
noncomputable def E8 (t:TypeId) (x:Operand) (Z:Operand->Value) (H:IH):Option al:=gy P H t (Z x)
noncomputable def RR (x:Operand) (s:Bool) (Z:Operand->Value) (H:IH):Option al:=@Bool.rec (fun _=>Option al) none (gU H (Z x)) s
noncomputable def Xk (x:Operand) (_ asserted:TypeId) (ok:Bool) (Z:Operand->Value) (H:IH):Option al:=bj P H (Z x) asserted ok
noncomputable def Xi (x:Operand) (i:Nat) (Z:Operand->Value) (H:IH):Option al:=cB H (Z x) i
noncomputable def Mr (x:Operand) (Z:Operand->Value) (H:IH):Option al:=gw H (Z x)
noncomputable def JV (c:Call) (Z:Operand->Value) (H:IH):Option al:=
 match c.callee with
 | .value f=>ee H (Z f) (c.args.toList.map Z)
 |_=>none
noncomputable def sZ (args:List Value) (H:IH) (fv:Value):Option al:=
 match fv with
 | .func (.yield l) _ _=>match gv self l args H with
  |some (v,H)=>some (.val v H)
  |none=>none
 |fv=>sI (dG P self H fv args)
noncomputable def Xr (args:Array Operand) (argTypes:Array TypeId) (ty:TypeId) (Z:Operand->Value) (H:IH) (b:Builtin):Option al:=bD P H b argTypes ty (args.toList.map Z)
noncomputable def W3 (args:Array Operand) (Z:Operand->Value) (H:IH) (f:Operand):Option al:=sZ P self (args.toList.map Z) H (Z f)
noncomputable def TU (ty:TypeId) (c:Call) (Z:Operand->Value) (H:IH):Option al:=
 @Callee.rec (fun _=>Option al) (W3 P self c.args Z H) (fun _ _=>none) (Xr P c.args c.argTypes ty Z H) c.callee
noncomputable def iV (Z:Operand->Value) (H:IH) (o:Oper):Option al:=
 @Op.rec (fun _=>(Operand->Value)->IH->Option al)
  RN RN RW (JK P) VJ (Ex P) (fQ P) (gu P) (VS P) (Jg P) (fun _=>hZ) (fun _=>hZ) UK (JE P) (Xm P) (RH P) (fun _ _=>hZ) (TY P) Td (TE P) (fun _ _=>hZ) (Vl P) (Cy P) (Xg P) (Xl P) (Xn P) (Xj P) (Xh P)
  (gu P) (fun _ _ _=>hZ) (fun _ _ _ _=>hZ) (E8 P) RR (fun _=>hZ) (Xk P) Xi (TU P self o.type) (fun _=>hZ) JV Mr (fun _ _=>hZ) (fun _ _ _=>hZ) (fun _ _=>hZ) o.op Z H
theorem dc (Z:Operand->Value) (H:IH) (o:Oper):iV P self Z H o=aC P self Z H o:=by
 obtain ⟨dst,op,type,pos,after,guard⟩:=o;cases op
 case binOp op t x y yt=>exact PI P op t x y yt Z H
 case next x s=>cases s<;>rfl
 case build t ps=>exact k7 P H t _
 case buildSlice t n ps=>exact fF P H t n _
 case load t a=>exact sg P H t _
 case store t a v=>exact o5 P H t _ _
 case indexAddr t x i=>exact gj P H t _ _
 case call c=>
  obtain ⟨callee,args,ats⟩:=c;cases callee with
  |value f=>
   show sZ P self (args.toList.map Z) H (Z f)=cJ P self Z H ⟨.value f,args,ats⟩ type
   unfold sZ cJ;rfl
  |invoke r n=>rfl
  |builtin b=>rfl
 all_goals rfl
end ops
noncomputable def Wr (want:Bool) (v:Value):Option Bool:=
 match v with
 | .bool b=>some (b==want)
 | .chan _=>none
 |_=>some false
noncomputable def NV (fi:FI) (ops:Array Oper) (E:En) (g:Nat×Bool):Option Bool:=
 @Option.rec Nat (fun _=>Option Bool) (some false) (fun d=>Wr g.2 (Pf fi E d)) ((ops[g.1]?).bind (·.dst))
theorem Ix (fi:FI) (ops:Array Oper) (E:En) (o:Oper) (g:Nat×Bool) (h:o.guard=some g):NV fi ops E g=aS fi ops E o:=by
 obtain ⟨j,b⟩:=g;unfold NV aS;rw [h];simp only;cases (ops[j]?).bind (·.dst) with
 |none=>rfl
 |some d=>simp only [s4];rfl
noncomputable def gF {R:Type} (no:R) (fi:FI) (ops:Array Oper) (E:En) (o:Oper) (a b:R):R:=
 @Option.rec (Nat×Bool) (fun _=>R) a (fun g=>@Option.rec Bool (fun _=>R) no (fun w=>@Bool.rec (fun _=>R) b a w) (NV fi ops E g)) o.guard
theorem RX {R:Type} (no:R) (fi:FI) (ops:Array Oper) (E:En) (o:Oper) (a b:R):gF no fi ops E o a b=(match aS fi ops E o with |some true=>a |some false=>b |none=>no):=by
 unfold gF;cases hg:o.guard with
 |none=>simp only [aS,hg]
 |some g=>
  simp only [Ix fi ops E o g hg];cases aS fi ops E o with
  |none=>rfl
  |some w=>cases w<;>rfl
abbrev Nx:=AL->AL->IH->List Deferred->bF
noncomputable def Xo (fi:FI) (loc tmp:AL) (t:Nat):Value:=@QU.rec (fun _=>Value) ay (Tc loc t) (Tc tmp t) (sF fi t)
noncomputable def eD (fi:FI) (loc tmp:AL) (x:Operand):Value:=@Operand.rec (fun _=>Value) (Xo fi loc tmp) PR OS Vb x
theorem Q5 (fi:FI) (loc tmp:AL):eD fi loc tmp=cg fi ⟨loc,tmp⟩:=dk fi ⟨loc,tmp⟩
noncomputable def Wz (fi:FI) (next:Nx) (loc tmp:AL) (H:IH) (D:List Deferred) (v:Value) (d:Nat):bF:=
 @QU.rec (fun _=>bF) (next loc tmp H D) (next (EA loc d v) tmp H D) (next loc (.c d v tmp) H D) (sF fi d)
noncomputable def gh (fi:FI) (dst:Option Tmp) (next:Nx) (loc tmp:AL) (H:IH) (D:List Deferred) (v:Value):bF:=
 @Option.rec Nat (fun _=>bF) (next loc tmp H D) (Wz fi next loc tmp H D v) dst
theorem s0 (fi:FI) (dst:Option Tmp) (N:En->IH->List Deferred->bF) (loc tmp:AL) (H:IH) (D:List Deferred) (v:Value):
  gh fi dst (fun l t=>N ⟨l,t⟩) loc tmp H D v=N (a3 fi ⟨loc,tmp⟩ dst v) H D:=by
 cases dst with
 |none=>rfl
 |some d=>
  show @QU.rec (fun _=>bF) (N ⟨loc,tmp⟩ H D) (N ⟨EA loc d v,tmp⟩ H D) (N ⟨loc,.c d v tmp⟩ H D) (sF fi d)=N (jl fi d v ⟨loc,tmp⟩) H D
  unfold jl;rw [s9,jN];cases cls fi d<;>rfl
noncomputable def kG (fi:FI) (ro:Option Nat) (dst:Option Tmp) (next:Nx) (loc tmp:AL) (D:List Deferred) (r:Option al):bF:=
 @Option.rec al (fun _=>bF) none (fun r=>@al.rec (fun _=>bF) (fun v H=>gh fi dst next loc tmp H D v) (fun H=>gh fi dst next loc tmp H D undef)
  (fun d H=>if ro.isNone then gh fi dst next loc tmp H (d::D) undef else none) (fun v H=>some (.panic v,⟨loc,tmp⟩,H,D)) r) r
noncomputable def kV (fi:FI) (_ro:Option Nat) (dst:Option Tmp) (next:Nx) (loc tmp:AL) (H:IH) (D:List Deferred) (r:Option Value):bF:=
 @Option.rec Value (fun _=>bF) none (gh fi dst next loc tmp H D) r
section step
variable (P:Program) (self:Self)
noncomputable def RK (x:Operand) (fi:FI) (_ro:Option Nat) (dst:Option Tmp) (next:Nx) (loc tmp:AL) (H:IH) (D:List Deferred):bF:=gh fi dst next loc tmp H D (eD fi loc tmp x)
noncomputable def a6 (h:(Operand->Value)->IH->Option al) (fi:FI) (ro:Option Nat) (dst:Option Tmp) (next:Nx) (loc tmp:AL) (H:IH) (D:List Deferred):bF:=kG fi ro dst next loc tmp D (h (eD fi loc tmp) H)
noncomputable def s2 (fi:FI) (ro:Option Nat) (dst:Option Tmp) (next:Nx) (loc tmp:AL) (H:IH) (D:List Deferred) (f:IntKind->Int->Int->Value) (alt:Option al) (a b:Value):bF:=
 match a,b with
 | .int k n,.int k' m=>if k=k' then gh fi dst next loc tmp H D (f k n m) else none
 |_,_=>kG fi ro dst next loc tmp D alt
abbrev iA:=TypeId->Operand->Operand->FI->Option Nat->Option Tmp->Nx->AL->AL->IH->List Deferred->Value->Value->bF
noncomputable def jx (op:BinOp):iA:=fun t x y fi ro dst next loc tmp H D a b=>kG fi ro dst next loc tmp D (aI P H op t x y a b)
noncomputable def W7:iA:=fun t x y fi ro dst next loc tmp H D a b=>s2 fi ro dst next loc tmp H D (fun k n m=> .int k (oM k (Se n m))) (aI P H .add t x y a b) a b
noncomputable def WG:iA:=fun t x y fi ro dst next loc tmp H D a b=>s2 fi ro dst next loc tmp H D (fun k n m=> .int k (oM k (n - m))) (aI P H .sub t x y a b) a b
noncomputable def Wy:iA:=fun t x y fi ro dst next loc tmp H D a b=>s2 fi ro dst next loc tmp H D (fun _ n m=> .bool (RS n m)) (aI P H .lss t x y a b) a b
noncomputable def Xb:iA:=fun t x y fi ro dst next loc tmp H D a b=>s2 fi ro dst next loc tmp H D (fun _ n m=> .bool (PF n m)) (aI P H .leq t x y a b) a b
noncomputable def Xf:iA:=fun t x y fi ro dst next loc tmp H D a b=>s2 fi ro dst next loc tmp H D (fun _ n m=> .bool (RS m n)) (aI P H .gtr t x y a b) a b
noncomputable def W0:iA:=fun t x y fi ro dst next loc tmp H D a b=>s2 fi ro dst next loc tmp H D (fun _ n m=> .bool (PF m n)) (aI P H .geq t x y a b) a b
noncomputable def WN:iA:=fun t x y fi ro dst next loc tmp H D a b=>s2 fi ro dst next loc tmp H D (fun _ n m=> .bool (n==m)) (aI P H .eql t x y a b) a b
noncomputable def WZ:iA:=fun t x y fi ro dst next loc tmp H D a b=>s2 fi ro dst next loc tmp H D (fun _ n m=> .bool (n !=m)) (aI P H .neq t x y a b) a b
noncomputable def SS (op:BinOp) (t:TypeId) (x y:Operand) (_:TypeId) (fi:FI) (ro:Option Nat) (dst:Option Tmp) (next:Nx) (loc tmp:AL) (H:IH) (D:List Deferred):bF:=
 @BinOp.rec (fun _=>iA) (W7 P) (WG P) (jx P .mul) (jx P .quo) (jx P .rem) (jx P .and) (jx P .or) (jx P .xor) (jx P .shl) (jx P .shr) (jx P .andNot)
  (WN P) (WZ P) (Wy P) (Xb P) (Xf P) (W0 P) op t x y fi ro dst next loc tmp H D (eD fi loc tmp x) (eD fi loc tmp y)
noncomputable def KE (t:TypeId) (a:Operand) (fi:FI) (ro:Option Nat) (dst:Option Tmp) (next:Nx) (loc tmp:AL) (H:IH) (D:List Deferred):bF:=
 match eD fi loc tmp a with
 | .pointer (some ⟨b,off,none⟩)=>kV fi ro dst next loc tmp H D (Um P H t b off)
 |_=>none
noncomputable def Sz (t:TypeId) (H:IH) (x:Value):Option Value:=
 match P.underlying t,x with
 |some (.slice _),.slice _ n _=>some (.int .i64 (.ofNat n))
 |_,x=>gO P H t x
theorem QY (t:TypeId) (H:IH) (x:Value):Sz P t H x=gO P H t x:=by
 unfold Sz;split
 ·rename_i e a n c hu
  unfold gO;rw [hu];rfl
 ·rfl
noncomputable def sLen (ats:Array TypeId) (fi:FI) (ro:Option Nat) (dst:Option Tmp) (next:Nx) (loc tmp:AL) (H:IH) (D:List Deferred) (x:Operand):bF:=
 @Option.rec Nat (fun _=>bF) none (fun t=>kV fi ro dst next loc tmp H D (Sz P t H (eD fi loc tmp x))) ats[0]?
noncomputable def WJ (args:Array Operand) (ats:Array TypeId) (ty:TypeId) (fi:FI) (ro:Option Nat) (dst:Option Tmp) (next:Nx) (loc tmp:AL) (H:IH) (D:List Deferred) (b:Builtin):bF:=
 match b,args.toList with
 | .len,[x]=>sLen P ats fi ro dst next loc tmp H D x
 |b,l=>kG fi ro dst next loc tmp D (bD P H b ats ty (l.map (eD fi loc tmp)))
noncomputable def V8 (ty:TypeId) (c:Call) (fi:FI) (ro:Option Nat) (dst:Option Tmp) (next:Nx) (loc tmp:AL) (H:IH) (D:List Deferred):bF:=
 @Callee.rec (fun _=>bF) (fun f=>kG fi ro dst next loc tmp D (sZ P self (c.args.toList.map (eD fi loc tmp)) H (eD fi loc tmp f))) (fun _ _=>none) (WJ P c.args c.argTypes ty fi ro dst next loc tmp H D) c.callee
noncomputable def stepG (o:Oper):FI->Option Nat->Option Tmp->Nx->AL->AL->IH->List Deferred->bF:=
 @Op.rec (fun _=>FI->Option Nat->Option Tmp->Nx->AL->AL->IH->List Deferred->bF)
  RK RK (fun c a b=>a6 (RW c a b)) (fun e=>a6 (JK P e)) (fun e x=>a6 (VJ e x)) (fun t ps=>a6 (Ex P t ps)) (fun t n ps=>a6 (fQ P t n ps)) (fun t m k v=>a6 (gu P t m k v))
  (KE P) (fun t a v=>a6 (Jg P t a v)) (fun _=>a6 hZ) (fun _=>a6 hZ) (fun x=>a6 (UK x)) (SS P) (fun op t x=>a6 (Xm P op t x)) (fun s d x=>a6 (RH P s d x)) (fun _ _=>a6 hZ) (fun t x=>a6 (TY P t x))
  (fun fn a c=>a6 (Td fn a c)) (fun t r=>a6 (TE P t r)) (fun _ _=>a6 hZ) (fun t l c=>a6 (Vl P t l c)) (fun t x l h m=>a6 (Cy P t x l h m)) (fun s x f=>a6 (Xg P s x f)) (fun s x f=>a6 (Xl P s x f)) (fun t x i=>a6 (Xn P t x i)) (fun t x i=>a6 (Xj P t x i))
  (fun t x k ok=>a6 (Xh P t x k ok)) (fun t m k v=>a6 (gu P t m k v)) (fun _ _ _=>a6 hZ) (fun _ _ _ _=>a6 hZ) (fun t x=>a6 (E8 P t x)) (fun x s=>a6 (RR x s)) (fun _=>a6 hZ) (fun x xt t ok=>a6 (Xk P x xt t ok)) (fun x i=>a6 (Xi x i))
  (V8 P self o.type) (fun _=>a6 hZ) (fun c=>a6 (JV c)) (fun x=>a6 (Mr x)) (fun _ _=>a6 hZ) (fun _ _ _=>a6 hZ) (fun _ _=>a6 hZ) o.op
theorem JZ (o:Oper) (fi:FI) (ro:Option Nat) (dst:Option Tmp) (next:Nx) (loc tmp:AL) (H:IH) (D:List Deferred):stepG P self o fi ro dst next loc tmp H D=kG fi ro dst next loc tmp D (aC P self (cg fi ⟨loc,tmp⟩) H o):=by
 rw [←Q5,←dc];obtain ⟨dst',op,type,pos,after,guard⟩:=o;cases op
 case load t a=>
  show KE P t a fi ro dst next loc tmp H D=kG fi ro dst next loc tmp D (eW P H t (eD fi loc tmp a))
  unfold KE eW;cases eD fi loc tmp a with
  |pointer p=>
   cases p with
   |none=>rfl
   |some ad=>
    obtain ⟨b,off,sp⟩:=ad;cases sp with
    |none=>
     simp only;cases Um P H t b off<;>rfl
    |some _=>rfl
  |_=>rfl
 case binOp op t x y yt=>
  show SS P op t x y yt fi ro dst next loc tmp H D=kG fi ro dst next loc tmp D (JE P op t x y yt (eD fi loc tmp) H)
  have key:∀ (f:IntKind->Int->Int->Value) (alt:Option al) (a b:Value),s2 fi ro dst next loc tmp H D f alt a b=kG fi ro dst next loc tmp D (b2 f alt H a b):=by
   intro f alt a b;unfold s2 b2;split
   ·split<;>rfl
   ·rfl
  unfold SS JE;cases op<;>first |rfl |exact key _ _ _ _
 case call c=>
  obtain ⟨callee,args,ats⟩:=c;cases callee with
  |value f=>rfl
  |invoke r n=>rfl
  |builtin b=>
   show WJ P args ats type fi ro dst next loc tmp H D b=kG fi ro dst next loc tmp D (bD P H b ats type (args.toList.map (eD fi loc tmp)))
   unfold WJ;split
   ·rename_i x hx
    rw [hx];unfold sLen;simp only [List.map_cons,List.map_nil,bD,QY];cases ats[0]? with
    |none=>rfl
    |some t=>
     simp only;cases gO P H t (eD fi loc tmp x)<;>rfl
   ·rfl
 all_goals rfl
end step
noncomputable def bU (P:Program) (self:Self) (fi:FI) (ro:Option Nat) (ops:Array Oper) (l:List Oper):Nx:=
 @List.rec Oper (fun _=>Nx) (fun loc tmp H D=>some (.normal,⟨loc,tmp⟩,H,D))
  (fun o _ ih loc tmp H D=>@Option.rec (Nat×Bool) (fun _=>bF) (stepG P self o fi ro o.dst ih loc tmp H D)
   (fun _=>gF none fi ops ⟨loc,tmp⟩ o (stepG P self o fi ro o.dst ih loc tmp H D) (gh fi o.dst ih loc tmp H D undef)) o.guard) l
noncomputable def Lo (P:Program) (self:Self) (fi:FI) (ro:Option Nat) (ops:Array Oper) (l:List Oper) (E:En):IH->List Deferred->bF:=bU P self fi ro ops l E.loc E.tmp
theorem vt (P:Program) (self:Self) (fi:FI) (ro:Option Nat) (ops:Array Oper) (l:List Oper):∀ loc tmp H D,bU P self fi ro ops l loc tmp H D=cf P self fi ro ops l ⟨loc,tmp⟩ H D:=by
 induction l with
 |nil=>intro loc tmp H D;rfl
 |cons o l ih=>
  intro loc tmp H D;have hn:bU P self fi ro ops l=fun l1 t1=>(fun E=>cf P self fi ro ops l E) ⟨l1,t1⟩:=by
   funext l1 t1 H1 D1;exact ih l1 t1 H1 D1
  have hstep:stepG P self o fi ro o.dst (bU P self fi ro ops l) loc tmp H D=(match aC P self (cg fi ⟨loc,tmp⟩) H o with
    |some (.val v H)=>cf P self fi ro ops l (a3 fi ⟨loc,tmp⟩ o.dst v) H D
    |some (.skip H)=>cf P self fi ro ops l (a3 fi ⟨loc,tmp⟩ o.dst undef) H D
    |some (.defer d H)=>if ro.isNone then cf P self fi ro ops l (a3 fi ⟨loc,tmp⟩ o.dst undef) H (d::D) else none
    |some (.panic v H)=>some (.panic v,⟨loc,tmp⟩,H,D)
    |none=>none):=by
   rw [JZ,hn];unfold kG;simp only [s0];cases aC P self (cg fi ⟨loc,tmp⟩) H o with
   |none=>rfl
   |some r=>cases r<;>rfl
  have hoff:gh fi o.dst (bU P self fi ro ops l) loc tmp H D undef=cf P self fi ro ops l (a3 fi ⟨loc,tmp⟩ o.dst undef) H D:=by
   rw [hn,s0]
  show @Option.rec (Nat×Bool) (fun _=>bF) (stepG P self o fi ro o.dst (bU P self fi ro ops l) loc tmp H D)
   (fun _=>gF none fi ops ⟨loc,tmp⟩ o (stepG P self o fi ro o.dst (bU P self fi ro ops l) loc tmp H D) (gh fi o.dst (bU P self fi ro ops l) loc tmp H D undef)) o.guard=_
  have e:@Option.rec (Nat×Bool) (fun _=>bF) (stepG P self o fi ro o.dst (bU P self fi ro ops l) loc tmp H D)
   (fun _=>gF none fi ops ⟨loc,tmp⟩ o (stepG P self o fi ro o.dst (bU P self fi ro ops l) loc tmp H D) (gh fi o.dst (bU P self fi ro ops l) loc tmp H D undef)) o.guard=
    gF none fi ops ⟨loc,tmp⟩ o (stepG P self o fi ro o.dst (bU P self fi ro ops l) loc tmp H D) (gh fi o.dst (bU P self fi ro ops l) loc tmp H D undef):=by
   unfold gF;cases o.guard<;>rfl
  rw [e,RX,hstep,hoff]
  conv=>rhs;unfold cf
  rfl
theorem uO (P:Program) (self:Self) (fi:FI) (ro:Option Nat) (ops:Array Oper) (l:List Oper) (E:En) (H:IH) (D:List Deferred):Lo P self fi ro ops l E H D=cf P self fi ro ops l E H D:=
 vt P self fi ro ops l E.loc E.tmp H D
noncomputable def RI (P:Program) (self:Self) (fi:FI) (_n0 _i:Nat) (o:Oper) (_m:Nat) (s:DS):DR:=
 match iV P self (qv fi s.T) s.H o with
 |some (.val v _)=> .done { s with T:=hU fi s.T o.dst v }
 |_=> .fail
noncomputable def eb (P:Program) (self:Self) (fi:FI) (T:En) (H:IH) (o:Oper) (v:Value):Bool:=
 match iV P self (qv fi T) H o with
 |some (.val v' _)=>iQ v v'
 |_=>false
theorem gT (P:Program) (self:Self) (fi:FI) (T:En) (H:IH) (o:Oper) (v:Value):eb P self fi T H o v=sameAt P self fi T H o v:=by
 unfold eb sameAt KF;rw [dc,dk];cases aC P self (cg fi T) H o with
 |none=>rfl
 |some r=>cases r<;>rfl
noncomputable def e7 (P:Program) (self:Self) (fi:FI) (T:En) (o:Oper) (v:Value) (m:Nat) (l:List (Nat×IH)):Bool:=
 @List.rec (Nat×IH) (fun _=>Bool) true (fun p _ ih=>@Bool.rec (fun _=>Bool) (@Bool.rec (fun _=>Bool) false ih (eb P self fi T p.2 o v)) ih (sJ m p.1)) l
theorem pA (P:Program) (self:Self) (fi:FI) (T:En) (o:Oper) (v:Value) (m:Nat) (l:List (Nat×IH)):e7 P self fi T o v m l=dw P self fi T o v m l:=by
 induction l with
 |nil=>rfl
 |cons p l ih=>
  obtain ⟨c,Hc⟩:=p
  show @Bool.rec (fun _=>Bool) (@Bool.rec (fun _=>Bool) false (e7 P self fi T o v m l) (eb P self fi T Hc o v)) (e7 P self fi T o v m l) (sJ m c)=_
  rw [ih,gT,dR];simp only [dw];cases m.testBit c<;>cases sameAt P self fi T Hc o v<;>rfl
noncomputable def dQ (P:Program) (self:Self) (fi:FI) (H:IH) (m:Nat) (l:List Rd):Bool:=
 @List.rec Rd (fun _=>Bool) true (fun r _ ih=>@Bool.rec (fun _=>Bool) (@Bool.rec (fun _=>Bool) false ih (eb P self fi r.T H r.o r.v)) ih (sJ m r.i)) l
theorem qH (P:Program) (self:Self) (fi:FI) (H:IH) (m:Nat) (l:List Rd):dQ P self fi H m l=cP P self fi H m l:=by
 induction l with
 |nil=>rfl
 |cons r l ih=>
  show @Bool.rec (fun _=>Bool) (@Bool.rec (fun _=>Bool) false (dQ P self fi H m l) (eb P self fi r.T H r.o r.v)) (dQ P self fi H m l) (sJ m r.i)=_
  rw [ih,gT,dR];simp only [cP];cases m.testBit r.i<;>cases sameAt P self fi r.T H r.o r.v<;>rfl
noncomputable def gz (m:Nat) (l:List (Nat×IH)):Bool:=@List.rec (Nat×IH) (fun _=>Bool) true (fun p _ ih=>@Bool.rec (fun _=>Bool) false ih (sJ m p.1)) l
theorem rZ (m:Nat) (l:List (Nat×IH)):gz m l=chained m l:=by
 induction l with
 |nil=>rfl
 |cons p l ih=>
  obtain ⟨c,Hc⟩:=p
  show @Bool.rec (fun _=>Bool) false (gz m l) (sJ m c)=_
  rw [ih,dR];simp only [chained];cases m.testBit c<;>rfl
noncomputable def Wu (m:Nat) (l:List (Nat×aq)):List (Nat×aq):=@List.rec (Nat×aq) (fun _=>List (Nat×aq)) [] (fun p _ ih=>@Bool.rec (fun _=>List (Nat×aq)) ih (p::ih) (sJ m p.1)) l
theorem SL (m:Nat) (l:List (Nat×aq)):Wu m l=l.filter fun x=>m.testBit x.1:=by
 induction l with
 |nil=>rfl
 |cons p l ih=>
  show @Bool.rec (fun _=>List (Nat×aq)) (Wu m l) (p::Wu m l) (sJ m p.1)=_
  rw [ih,dR,List.filter_cons];cases m.testBit p.1<;>rfl
noncomputable def H5 (m:Nat) (l:List (Nat×aq)):List (Nat×aq):=@List.rec (Nat×aq) (fun _=>List (Nat×aq)) [] (fun p _ ih=>@Bool.rec (fun _=>List (Nat×aq)) (p::ih) ih (sJ m p.1)) l
theorem RA (m:Nat) (l:List (Nat×aq)):H5 m l=l.filter fun x=> !m.testBit x.1:=by
 induction l with
 |nil=>rfl
 |cons p l ih=>
  show @Bool.rec (fun _=>List (Nat×aq)) (p::H5 m l) (H5 m l) (sJ m p.1)=_
  rw [ih,dR,List.filter_cons];cases m.testBit p.1<;>rfl
noncomputable def RG (P:Program) (self:Self) (fi:FI) (_n0 i:Nat) (o:Oper) (m:Nat) (s:DS):DR:=
 match iV P self (qv fi s.T) s.H o with
 |some (.val v _)=>@Bool.rec (fun _=>DR) .fail (.done { s with T:=hU fi s.T o.dst v,reads:=⟨i,o,s.T,v⟩::s.reads }) (e7 P self fi s.T o v m s.aR)
 |_=> .fail
noncomputable def Gq (P:Program) (self:Self) (fi:FI) (n0 i:Nat) (o:Oper) (_m:Nat) (s:DS):DR:=
 match iV P self (qv fi s.T) { s.H with n:=n0+i } o with
 |some (.val v H')=>match H'.get (n0+i) with
  |some ob=> .done { s with T:=hU fi s.T o.dst v,bK:=(i,ob)::s.bK }
  |none=> .fail
 |_=> .fail
noncomputable def sY (P:Program) (self:Self) (fi:FI) (i:Nat) (dst:Option Tmp) (m:Nat) (s:DS) (r:Option al):DR:=
 match r with
 |some (.val v H')=>@Bool.rec (fun _=>DR) .fail (.done { T:=hU fi s.T dst v,H:=H',bK:=H5 m s.bK,aR:=(i,s.H)::s.aR,reads:=s.reads }) (dQ P self fi H' m s.reads)
 |some (.skip H')=>@Bool.rec (fun _=>DR) .fail (.done { T:=hU fi s.T dst undef,H:=H',bK:=H5 m s.bK,aR:=(i,s.H)::s.aR,reads:=s.reads }) (dQ P self fi H' m s.reads)
 |some (.panic v H')=> .panic v H'
 |_=> .fail
noncomputable def GH (P:Program) (self:Self) (fi:FI) (n0 i:Nat) (o:Oper) (m:Nat) (s:DS):DR:=
 @Bool.rec (fun _=>DR) .fail (sY P self fi i o.dst m s (iV P self (qv fi s.T) (aB n0 (Wu m s.bK) s.H) o)) (gz m s.aR)
noncomputable def cy (P:Program) (self:Self) (fi:FI) (ops:Array Oper) (n0 i:Nat) (o:Oper) (m:Nat) (s:DS):DR:=
 gF .fail fi ops s.T o (@Kind.rec (fun _=>Program->Self->FI->Nat->Nat->Oper->Nat->DS->DR) RI RG Gq GH (kindOf P o) P self fi n0 i o m s) (.done { s with T:=hU fi s.T o.dst undef })
theorem dj {R:Type} (b:Bool) (x y:R):@Bool.rec (fun _=>R) y x b=if b=true then x else y:=by cases b<;>rfl
theorem eY (P:Program) (self:Self) (fi:FI) (ops:Array Oper) (n0 i:Nat) (o:Oper) (m:Nat) (s:DS):cy P self fi ops n0 i o m s=bm P self fi ops n0 i o m s:=by
 unfold cy bm;rw [RX];split
 ·rename_i hw
  rw [hw];simp only;cases hk:kindOf P o with
  |pure=>
   simp only [RI,dc,dk,dW];cases aC P self (cg fi s.T) s.H o with
   |none=>rfl
   |some r=>cases r<;>rfl
  |read=>
   simp only [RG,dc,dk,dW,dj,pA];cases aC P self (cg fi s.T) s.H o with
   |none=>rfl
   |some r=>cases r<;>rfl
  |fresh=>
   simp only [Gq,dc,dk,dW];cases aC P self (cg fi s.T) { s.H with n:=n0+i } o with
   |none=>rfl
   |some r=>cases r<;>rfl
  |chain=>
   simp only [GH,sY,dc,dk,dW,dj,qH,SL,RA,rZ];cases chained m s.aR with
   |false=>rfl
   |true=>
    simp only [if_true];cases aC P self (cg fi s.T) (aB n0 (s.bK.filter fun x=>m.testBit x.1) s.H) o with
    |none=>rfl
    |some r=>cases r<;>rfl
 ·rename_i hw;rw [hw];simp only [dW]
 ·rename_i hw;rw [hw]
noncomputable def Kd (next:Nat->List Nat->DS->Option (Nat×Value×IH)->DR) (i:Nat) (ms:List Nat) (s:DS) (r:DR):DR:=
 @DR.rec (fun _=>DR) (fun s'=>next (i+1) ms s' none) (fun v H=>next (i+1) ms { s with aR:=(i,s.H)::s.aR } (some (i,v,H))) .fail r
noncomputable def jo (next:Nat->List Nat->DS->Option (Nat×Value×IH)->DR) (i:Nat) (ms:List Nat) (px:Nat×Value×IH) (r:DR):DR:=
 match r with
 | .done s'=>next (i+1) ms s' (some px)
 |_=> .fail
noncomputable def WW (s:DS) (px:Option (Nat×Value×IH)):DR:=
 match px with
 |none=> .done s
 |some (_,v,H)=> .panic v H
noncomputable def cE (P:Program) (self:Self) (fi:FI) (ops:Array Oper) (n0:Nat) (l:List Oper):Nat->List Nat->DS->Option (Nat×Value×IH)->DR:=
 @List.rec Oper (fun _=>Nat->List Nat->DS->Option (Nat×Value×IH)->DR) (fun _ _ s px=>WW s px)
  (fun o _ ih i ms s px=>@List.rec Nat (fun _=>DR) .fail (fun m ms _=>@Option.rec (Nat×Value×IH) (fun _=>DR) (Kd ih i ms s (cy P self fi ops n0 i o m s))
   (fun px=>@Bool.rec (fun _=>DR) (jo ih i ms px (cy P self fi ops n0 i o m s)) (ih (i+1) ms s (some px)) (sJ m px.1)) px) ms) l
theorem ij (P:Program) (self:Self) (fi:FI) (ops:Array Oper) (n0:Nat) (l:List Oper):∀ i ms s px,cE P self fi ops n0 l i ms s px=aE P self fi ops n0 l i ms s px:=by
 induction l with
 |nil=>intro i ms s px;cases px<;>rfl
 |cons o l ih=>
  intro i ms s px;cases ms with
  |nil=>cases px<;>rfl
  |cons m ms=>
   cases px with
   |none=>
    show Kd (cE P self fi ops n0 l) i ms s (cy P self fi ops n0 i o m s)=_
    rw [eY];unfold aE Kd;cases bm P self fi ops n0 i o m s with
    |done s'=>exact ih _ _ _ _
    |panic v H=>exact ih _ _ _ _
    |fail=>rfl
   |some px=>
    obtain ⟨c,v,H⟩:=px
    show @Bool.rec (fun _=>DR) (jo (cE P self fi ops n0 l) i ms (c,v,H) (cy P self fi ops n0 i o m s)) (cE P self fi ops n0 l (i+1) ms s (some (c,v,H))) (sJ m c)=_
    rw [eY,ih,dR];unfold jo
    conv=>rhs;unfold aE
    cases m.testBit c with
    |true=>rfl
    |false=>
     cases bm P self fi ops n0 i o m s with
     |done s'=>exact ih _ _ _ _
     |panic v H=>rfl
     |fail=>rfl
noncomputable def Qs {α:Type} (l:List α):(Nat->α->Bool)->Nat->Bool:=@List.rec α (fun _=>(Nat->α->Bool)->Nat->Bool) (fun _ _=>true) (fun a _ ih p i=>@Bool.rec (fun _=>Bool) false (ih p (Nat.succ i)) (p i a)) l
theorem ta {α:Type} (p:Nat->α->Bool) (d:Bool) (l:List α):∀ k,Qs l p k=(List.range l.length).all (fun i=>(l[i]?).elim d (p (k+i))):=by
 induction l with
 |nil=>intro k;rfl
 |cons a l ih=>
  intro k
  show @Bool.rec (fun _=>Bool) false (Qs l p (k+1)) (p k a)=_
  rw [ih,List.length_cons,List.range_succ_eq_map,List.all_cons,List.all_map];have e:((fun i=>((a::l)[i]?).elim d (p (k+i)))∘Nat.succ)=fun i=>(l[i]?).elim d (p (k+1+i)):=by
   funext i;simp only [Function.comp_apply,List.getElem?_cons_succ];cases l[i]? with
   |none=>rfl
   |some x=>simp only [Nat.succ_eq_add_one,Option.elim];congr 1;omega
  rw [e];simp only [List.getElem?_cons_zero,Nat.add_zero,Option.elim];cases p k a<;>rfl
theorem S5 (a b:Nat):Nat.beq a b=(a==b):=by
 rw [Bool.eq_iff_iff,Nat.beq_eq];simp
noncomputable def Wq (x:Option Tmp) (t:Nat):Bool:=@Option.rec Nat (fun _=>Bool) false (fun u=>Nat.beq u t) x
theorem Q3 (x:Option Tmp) (t:Nat):Wq x t=(x==some t):=by
 cases x with
 |none=>rfl
 |some u=>exact S5 u t
noncomputable def CR (ms looks:List Nat) (d:Option Tmp) (m i j t:Nat):Bool:=
 @Bool.rec (fun _=>Bool) false
  (@Bool.rec (fun _=>Bool) (@Bool.rec (fun _=>Bool) (@Bool.rec (fun _=>Bool) true false (uG looks t)) true (sJ (@Option.rec Nat (fun _=>Nat) 0 (fun n=>n) (FL ms j)) i)) true (sJ m j))
  (@Bool.rec (fun _=>Bool) (@Bool.rec (fun _=>Bool) true false (Wq d t)) true (Nat.beq j i))
noncomputable def MB (ms looks:List Nat) (d:Option Tmp) (m i j:Nat) (oj:Oper):Bool:=@Option.rec Nat (fun _=>Bool) true (CR ms looks d m i j) oj.dst
noncomputable def F0 (i:Nat) (l:List Edge):Bool:=@List.rec Edge (fun _=>Bool) true (fun e _ ih=>@Bool.rec (fun _=>Bool) false ih (@Bool.rec (fun _=>Bool) true (Nat.ble (Nat.succ e.on) i) (Region.binds .any e))) l
noncomputable def RV (ops:Array Oper) (ms:List Nat) (i:Nat) (o:Oper):Bool:=
 @Option.rec Nat (fun _=>Bool) false (fun m=>@Bool.rec (fun _=>Bool) false (Qs ops.toList (MB ms (o.looksAt ops) o.dst m i) 0) (F0 i o.after.toList)) (FL ms i)
noncomputable def fI (ops:Array Oper) (ms:List Nat):Bool:=Qs ops.toList (RV ops ms) 0
theorem iG (l:List Nat) (t:Nat):uG l t=l.contains t:=by
 induction l with
 |nil=>rfl
 |cons k l ih=>
  show @Bool.rec (fun _=>Bool) (uG l t) true (Nat.beq k t)=_
  rw [ih,List.contains_cons];have:Nat.beq k t=(t==k):=by
   rw [S5];exact Bool.beq_comm
  rw [this];cases t==k<;>rfl
theorem jd (ops:Array Oper) (ms:List Nat):fI ops ms=dD ops ms:=by
 unfold fI dD;rw [ta _ false ops.toList 0];have hsz:ops.toList.length=ops.size:=Array.length_toList;rw [hsz]
 congr 1
 funext i;rw [←Array.getElem?_toList];cases ho:ops.toList[i]? with
 |none=>rfl
 |some o=>
  simp only [Nat.zero_add,Option.elim];unfold RV;rw [jc];cases hm:ms[i]? with
  |none=>rfl
  |some m=>
   simp only;have hback:∀ l:List Edge,F0 i l=l.all (fun e=> !Region.binds .any e ||decide (e.on<i)):=by
    intro l
    induction l with
    |nil=>rfl
    |cons e l ih=>
     show @Bool.rec (fun _=>Bool) false (F0 i l) (@Bool.rec (fun _=>Bool) true (Nat.ble (Nat.succ e.on) i) (Region.binds .any e))=_
     rw [ih,eJ,List.all_cons];have:decide (Nat.succ e.on<=i)=decide (e.on<i):=rfl;rw [this];cases Region.binds .any e<;>cases decide (e.on<i)<;>rfl
   rw [hback,ta _ true ops.toList 0,hsz]
   have hin:(List.range ops.size).all (fun j=>(ops.toList[j]?).elim true (MB ms (o.looksAt ops) o.dst m i (0+j)))=
     (List.range ops.size).all fun j=>match ops[j]? with
      |some oj=>match oj.dst with
       |none=>true
       |some t=>(j==i ||o.dst !=some t) &&(m.testBit j ||(ms.getD j 0).testBit i || !(o.looksAt ops).contains t)
      |none=>true:=by
    congr 1
    funext j;rw [←Array.getElem?_toList];cases ops.toList[j]? with
    |none=>rfl
    |some oj=>
     simp only [Nat.zero_add,Option.elim];unfold MB;cases oj.dst with
     |none=>rfl
     |some t=>
      show CR ms (o.looksAt ops) o.dst m i j t=_
      unfold CR;rw [jc,dR,dR,iG,Q3];have hg:(@Option.rec Nat (fun _=>Nat) 0 (fun n=>n) ms[j]?)=ms.getD j 0:=by
       rw [List.getD_eq_getElem?_getD];cases ms[j]? <;>rfl
      rw [hg];have hj:Nat.beq j i=(j==i):=S5 j i;rw [hj];simp only [bne];cases (j==i)<;>cases (o.dst==some t)<;>cases m.testBit j<;>cases (ms.getD j 0).testBit i<;>cases (o.looksAt ops).contains t<;>rfl
   refine (congrArg (fun b=>@Bool.rec (fun _=>Bool) false b (o.after.toList.all fun e=> !Region.binds .any e ||decide (e.on<i))) hin).trans ?_;cases o.after.toList.all (fun e=> !Region.binds .any e ||decide (e.on<i))<;>rfl
noncomputable def sV (fi:FI) (ops:Array Oper) (T:En) (n0:Nat) (D:List Deferred) (r:DR):bF:=
 @DR.rec (fun _=>bF) (fun s=>some (.normal,s.T,aB n0 s.bK s.H,D)) (fun v H=>some (.panic v,cz fi ops.toList T,H,D)) none r
noncomputable def jK (P:Program) (self:Self) (fi:FI) (ops:Array Oper) (T:En) (H:IH) (D:List Deferred):bF:=
 @Bool.rec (fun _=>bF) none (sV fi ops T H.n D (cE P self fi ops H.n ops.toList 0 (aY ops.toList []) ⟨T,{ H with n:=H.n+dx P ops },[],[],[]⟩ none)) (fI ops (aY ops.toList []))
theorem sr (P:Program) (self:Self) (fi:FI) (ops:Array Oper) (T:En) (H:IH) (D:List Deferred):jK P self fi ops T H D=hM P self fi ops T H D:=by
 unfold jK hM sV;rw [ij,dj,jd];simp only;split
 ·cases aE P self fi ops H.n ops.toList 0 (aY ops.toList []) ⟨T,{ H with n:=H.n+dx P ops },[],[],[]⟩ none<;>rfl
 ·rfl
noncomputable def U5 (xn:En->IH->List Deferred->bF) (r:bF):bF:=
 @Option.rec (X×En×IH×List Deferred) (fun _=>bF) none (fun p=>@Prod.rec X (En×IH×List Deferred) (fun _=>bF) (fun x p=>@X.rec (fun _=>bF) (xn p.1 p.2.1 p.2.2) (fun id=>some (.exit id,p)) (some (.ret,p)) (fun v=>some (.panic v,p)) x) p) r
theorem Cx (xn:En->IH->List Deferred->bF) (r:bF):U5 xn r=(match r with |some (.normal,T,H,D)=>xn T H D |r=>r):=by
 cases r with
 |none=>rfl
 |some p=>obtain ⟨x,T,H,D⟩:=p;cases x<;>rfl
noncomputable def LQ (id:Nat) (r:bF):bF:=
 @Option.rec (X×En×IH×List Deferred) (fun _=>bF) none (fun p=>@Prod.rec X (En×IH×List Deferred) (fun _=>bF) (fun x p=>@X.rec (fun _=>bF) (some (.normal,p)) (fun j=>@Bool.rec (fun _=>bF) (some (.exit j,p)) (some (.normal,p)) (Nat.beq j id)) (some (.ret,p)) (fun v=>some (.panic v,p)) x) p) r
theorem DK (id:Nat) (r:bF):LQ id r=(match r with |some (.exit j,T,H,D)=>if j=id then some (.normal,T,H,D) else some (.exit j,T,H,D) |r=>r):=by
 cases r with
 |none=>rfl
 |some p=>
  obtain ⟨x,T,H,D⟩:=p;cases x with
  |exit j=>
   show @Bool.rec (fun _=>bF) (some (.exit j,T,H,D)) (some (.normal,T,H,D)) (Nat.beq j id)=_
   cases hb:Nat.beq j id with
   |true=>simp [Nat.eq_of_beq_eq_true hb]
   |false=>simp [Nat.ne_of_beq_eq_false hb]
  |_=>rfl
noncomputable def W5 (a b:En->IH->List Deferred->bF) (T:En) (H:IH) (D:List Deferred) (v:Value):bF:=
 match v with
 | .bool c=>@Bool.rec (fun _=>bF) (b T H D) (a T H D) c
 |_=>none
noncomputable def b0 (P:Program) (self:Self) (fi:FI) (ro:Option Nat) (c:Code):En->IH->List Deferred->bF:=
 @Code.rec (fun _=>En->IH->List Deferred->bF)
  (fun T H D=>some (.normal,T,H,D))
  (fun _ ops d T H D=>@Bool.rec (fun _=>bF) (Lo P self fi ro ops ops.toList T.reset H D) (jK P self fi ops T.reset H D) d)
  (fun _ _ ia ib T H D=>U5 ib (ia T H D))
  (fun c _ _ ia ib T H D=>W5 ia ib T H D (qv fi T c))
  (fun id _ ic T H D=>LQ id (ic T H D))
  (fun c ic T H D=>U5 (self.code fi ro (.loop c)) (ic T H D))
  (fun f ps asg body _ _ T H D=>aH P self fi ro (.rangeFunc f ps asg body) T H D)
  (fun id T H D=>some (.exit id,T,H,D))
  (fun _ ic T H D=>ic T H D)
  (fun _ T H D=>some (.normal,T,H,D))
  (fun _ _ _ _=>none)
  (fun T H D=>some (.ret,T,H,D))
  (fun _ _ _ _=>none) c
theorem hO (P:Program) (self:Self) (fi:FI) (ro:Option Nat) (c:Code):∀ T H D,b0 P self fi ro c T H D=aH P self fi ro c T H D:=by
 induction c with
 |skip=>intro T H D;rfl
 |region id ops d=>
  intro T H D;cases d with
  |false=>exact uO P self fi ro ops ops.toList T.reset H D
  |true=>exact sr P self fi ops T.reset H D
 |seq a b iha ihb=>
  intro T H D
  show U5 (b0 P self fi ro b) (b0 P self fi ro a T H D)=_
  rw [Cx,iha]
  conv=>rhs;unfold aH
  cases aH P self fi ro a T H D with
  |none=>rfl
  |some p=>
   obtain ⟨x,T,H,D⟩:=p;cases x with
   |normal=>exact ihb T H D
   |_=>rfl
 |cond c a b iha ihb=>
  intro T H D
  show W5 (b0 P self fi ro a) (b0 P self fi ro b) T H D (qv fi T c)=_
  rw [dk];unfold W5
  conv=>rhs;unfold aH
  cases cg fi T c with
  |bool x=>cases x with
   |true=>exact iha T H D
   |false=>exact ihb T H D
  |_=>rfl
 |block id c ih=>
  intro T H D
  show LQ id (b0 P self fi ro c T H D)=_
  rw [DK,ih]
  conv=>rhs;unfold aH
  rfl
 |loop c ih=>
  intro T H D
  show U5 (self.code fi ro (.loop c)) (b0 P self fi ro c T H D)=_
  rw [Cx,ih]
  conv=>rhs;unfold aH
  rfl
 |rangeFunc f ps asg body _ _=>intro T H D;rfl
 |exit id=>intro T H D;rfl
 |scope c ih=>intro T H D;exact ih T H D
 |label l=>intro T H D;rfl
 |goto l=>intro T H D;rfl
 |ret=>intro T H D;rfl
 |refuse s=>intro T H D;rfl
noncomputable def N0 (P:Program) (hint:Hint) (self:Self) (fi:FI) (fn:Func) (x:X) (p:En×IH×List Deferred):Option (End×IH):=
 @X.rec (fun _=>Option (End×IH)) (bZ P hint self fi fn p.1 p.2.2 .returning p.2.1) (fun _=>none) (bZ P hint self fi fn p.1 p.2.2 .returning p.2.1) (fun v=>bZ P hint self fi fn p.1 p.2.2 (.panicking v false) p.2.1) x
noncomputable def F6 (P:Program) (hint:Hint) (self:Self) (fi:FI) (fn:Func) (r:bF):Option (End×IH):=
 @Option.rec (X×En×IH×List Deferred) (fun _=>Option (End×IH)) none (fun p=>N0 P hint self fi fn p.1 p.2) r
noncomputable def RT (P:Program) (hint:Hint) (self:Self) (f:FuncId) (args:List Value) (H:IH) (fn:Func) (c:Code):Option (End×IH):=
 @Bool.rec (fun _=>Option (End×IH)) none (F6 P hint self (fx hint f fn) fn (b0 P self (fx hint f fn) none c (bH args) H [])) (fits fn args)
noncomputable def jB (P:Program) (hint:Hint) (self:Self) (f:FuncId) (args:List Value) (H:IH):Option (End×IH):=
 @Option.rec Func (fun _=>Option (End×IH)) none (fun fn=>@Option.rec Code (fun _=>Option (End×IH)) none (RT P hint self f args H fn) fn.body) P.funcs[f]?
theorem su (P:Program) (hint:Hint) (self:Self) (f:FuncId) (args:List Value) (H:IH):jB P hint self f args H=eK P hint self f args H:=by
 unfold jB eK;cases P.funcs[f]? with
 |none=>rfl
 |some fn=>
  simp only;cases fn.body with
  |none=>rfl
  |some c=>
   simp only [RT,dj,hO];split
   ·unfold F6 N0
    cases aH P self (fx hint f fn) none c (bH args) H [] with
    |none=>rfl
    |some p=>obtain ⟨x,T,H,D⟩:=p;cases x<;>rfl
   ·rfl
noncomputable def fl (P:Program) (hint:Hint) (spec:Spec) (self:Self) (f:FuncId) (args:List Value) (H:IH):Option (End×IH):=
 @Option.rec (End×IH) (fun _=>Option (End×IH)) (jB P hint self f args H) some (spec f args H)
theorem mA (P:Program) (hint:Hint) (spec:Spec) (self:Self) (f:FuncId) (args:List Value) (H:IH):fl P hint spec self f args H=cR P hint spec self f args H:=by
 unfold fl cR;cases spec f args H with
 |none=>exact su P hint self f args H
 |some r=>rfl
noncomputable def aj (P:Program) (hint:Hint) (spec:Spec) (n:Nat):Self:=
 @Nat.rec (fun _=>Self) ⟨fun _ _ _ _ _ _=>none,fun _ _ _=>none⟩ (fun _ s=>⟨b0 P s,fl P hint spec s⟩) n
theorem ss (P:Program) (hint:Hint) (spec:Spec):∀ n,aj P hint spec n=ev P hint spec n:=by
 intro n
 induction n with
 |zero=>rfl
 |succ n ih=>
  show Self.mk (b0 P (aj P hint spec n)) (fl P hint spec (aj P hint spec n))=⟨aH P (ev P hint spec n),cR P hint spec (ev P hint spec n)⟩
  rw [ih]
  congr 1
  ·funext fi ro c T H D;exact hO P _ fi ro c T H D
  ·funext f args H;exact mA P hint spec _ f args H
end Go.Iv
