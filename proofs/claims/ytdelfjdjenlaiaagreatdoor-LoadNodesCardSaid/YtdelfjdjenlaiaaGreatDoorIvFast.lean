/- The same evaluator in a form that the kernel runs fast: each choice by the type's own recursor, each branch a small closed piece. -/
import Derived.Test.YtdelfjdjenlaiaaGreatDoorIvFastA
set_option linter.unusedSimpArgs false
set_option linter.unusedVariables false
namespace Go.Iv
open Go
noncomputable def Wo (H:IH) (r:Option (List Value)):Option ag:=@Option.rec (List Value) (fun _=>Option ag) none (fun l=>some (.val (.agg ⟨l⟩) H)) r
noncomputable def Ox (P:Program) (H:IH) (t:TypeId) (ps:List (Nat×Value)) (z:Value):Option ag:=
 match P.underlying t with
 |some (.struct fs)=>match placesOf P fs.toList with
  |some places=>Wo H (mi (fun i=>places[i]?) z.cells.size ps z.cells.toList)
  |none=>none
 |some (.array _ e)=>match P.info? e with
  |some i=>Wo H (mi (fun j=>some (j*i.size,i.size)) z.cells.size ps z.cells.toList)
  |none=>none
 |_=>none
noncomputable def wy (P:Program) (H:IH) (t:TypeId) (ps:List (Nat×Value)):Option ag:=
 @Bool.rec (fun _=>Option ag) none (@Option.rec Value (fun _=>Option ag) none (Ox P H t ps) (zeroOf P t)) (ps.all fun p=>Oh p.2)
theorem FV (P:Program) (H:IH) (t:TypeId) (ps:List (Nat×Value)):wy P H t ps=gZ P H t ps:=by
 have agg:∀ (pl:Nat->Option (Nat×Nat)) (cs:Array Value),Wo H (mi pl cs.size ps cs.toList)=(match Instr.fill pl cs ps with |some cells=>some (.val (.agg cells) H) |none=>none):=by
  intro pl cs;rw [fill_eq];cases mi pl cs.size ps cs.toList<;>rfl
 unfold wy gZ;cases ps.all fun p=>Oh p.2 with
 |false=>rfl
 |true=>
  simp only [if_true];cases zeroOf P t with
  |none=>rfl
  |some z=>
   simp only [Ox];cases P.underlying t with
   |none=>rfl
   |some d=>
    cases d with
    |struct fs=>
     simp only;cases placesOf P fs.toList with
     |none=>rfl
     |some places=>simp only;rw [agg];rfl
    |array n e=>
     simp only;cases P.info? e with
     |none=>rfl
     |some i=>simp only;rw [agg];rfl
    |_=>rfl
noncomputable def W6 (H:IH) (e:TypeId) (len:Nat) (r:Option (List Value)):Option ag:=@Option.rec (List Value) (fun _=>Option ag) none (fun l=>some (.val (.slice (some ⟨H.n,0,none⟩) len len) (bE H e l))) r
noncomputable def jl (P:Program) (H:IH) (t:TypeId) (len:Nat) (ps:List (Nat×Value)):Option ag:=
 match bK P t with
 |some (e,i)=>
  if len*(i.size+1)<=2^24 &&ps.all (fun p=>Oh p.2) then
   match zeroOf P e with
   |some z=>
    if z.cells.size=i.size then W6 H e len (mi (fun j=>some (j*i.size,i.size)) (du z.cells.toList len).length ps (du z.cells.toList len)) else none
   |none=>none
  else none
 |none=>none
theorem rG (P:Program) (H:IH) (t:TypeId) (len:Nat) (ps:List (Nat×Value)):jl P H t len ps=aW P H t len ps:=by
 have aJ:∀ (pl:Nat->Option (Nat×Nat)) (e:TypeId) (cs:List Value),W6 H e len (mi pl cs.length ps cs)=(match Instr.fill pl ⟨cs⟩ ps with |some cells=>some (ag.val (.slice (some ⟨H.n,0,none⟩) len len) (bE H e cells.toList)) |none=>none):=by
  intro pl e cs;rw [fill_eq]
  show _=(match (mi pl cs.length ps cs).map fun l=>(⟨l⟩:Array Value) with |some cells=>some (ag.val (.slice (some ⟨H.n,0,none⟩) len len) (bE H e cells.toList)) |none=>none)
  cases mi pl cs.length ps cs<;>rfl
 unfold jl aW;cases bK P t with
 |none=>rfl
 |some ei=>
  obtain ⟨e,i⟩:=ei;simp only;split
  ·cases zeroOf P e with
   |none=>rfl
   |some z=>
    simp only;split
    ·exact aJ _ _ _
    ·rfl
  ·rfl
noncomputable def H8 (n off:Nat) (o:Option bB):Option (List Value):=
 match o with
 |some (.cells cs _ _ _ _)=>Q5 n (Sk off cs)
 |_=>none
theorem MG (H:IH) (b off n:Nat) (hn:n≠0):H8 n off (H.get b)=H.bq b off n:=by
 unfold H8 IH.bq;cases H.get b with
 |none=>rfl
 |some o=>
  cases o with
  |cells cs e fz ex sh=>
   simp only;rw [Q0,Pz];by_cases h:off+n<=cs.length
   ·rw [if_pos (by simp;omega),if_pos h]
   ·rw [if_neg (by simp;omega),if_neg h]
  |_=>rfl
noncomputable def Vn (off:Nat) (o:Option bB):Option Value:=
 match o with
 |some (.cells cs _ _ _ _)=>So cs off
 |_=>none
noncomputable def W9 (r:Option (List Value)):Option Value:=@Option.rec (List Value) (fun _=>Option Value) none (fun l=>some (.agg ⟨l⟩)) r
noncomputable def W1 (P:Program) (H:IH) (t:TypeId) (b off:Nat):Option Value:=
 match eI P t with
 |some true=>match P.info? t with
  |some i=>@Bool.rec (fun _=>Option Value) (W9 (H8 i.size off (H.get b))) (iP P H t b off) (Nat.beq i.size 0)
  |none=>none
 |some false=>Vn off (H.get b)
 |none=>none
theorem VY (P:Program) (H:IH) (t:TypeId) (b off:Nat):W1 P H t b off=iP P H t b off:=by
 unfold W1 iP;cases eI P t with
 |none=>rfl
 |some x=>
  cases x with
  |true=>
   simp only;cases P.info? t with
   |none=>rfl
   |some i=>
    simp only;cases hz:Nat.beq i.size 0 with
    |true=>rfl
    |false=>
     simp only;rw [MG H b off i.size (Nat.ne_of_beq_eq_false hz)];unfold W9;cases H.bq b off i.size<;>rfl
  |false=>
   simp only;unfold Vn;cases H.get b with
   |none=>rfl
   |some o=>
    cases o with
    |cells cs e fz ex sh=>exact CZ cs off
    |_=>rfl
noncomputable def Vj (H:IH) (b:Nat) (e:TypeId) (fz:Nat) (ex sh:Bool) (r:Option (List Value)):Option IH:=@Option.rec (List Value) (fun _=>Option IH) none (fun cs=>some (H.put b (.cells cs e fz ex sh))) r
noncomputable def X4 (H:IH) (b off:Nat) (v:Value):Option IH:=
 match H.get b with
 |some (.cells cs e fz ex sh)=>@Bool.rec (fun _=>Option IH) none (Vj H b e fz ex sh (Vx off v cs)) (Qp (Nat.ble dJ b) (Qp (Nat.ble fz off) (one v)))
 |_=>none
theorem n8 (a b:Nat):Nat.ble a b=decide (a<=b):=by
 cases h:Nat.ble a b with
 |true=>exact (decide_eq_true (Nat.le_of_ble_eq_true h)).symm
 |false=>exact (decide_eq_false fun x=>by rw [Nat.ble_eq_true_of_le x] at h;cases h).symm
theorem WD (H:IH) (b off:Nat) (v:Value):X4 H b off v=H.dz b off [v]:=by
 unfold X4 IH.dz;simp only [List.isEmpty_cons,Bool.false_eq_true,if_false];cases H.get b with
 |none=>rfl
 |some o=>
  cases o with
  |cells cs e fz ex sh=>
   simp only [Lk,n8,Ud,Vj,List.length_singleton,List.all_cons,List.all_nil,Bool.and_true];by_cases h1:dJ<=b<;>by_cases h2:fz<=off<;>by_cases h3:off+1<=cs.length<;>cases one v<;>simp [h1,h2,h3]
  |_=>rfl
noncomputable def zL (r:Option IH):Option ag:=@Option.rec IH (fun _=>Option ag) none (fun H=>some (.skip H)) r
noncomputable def Yr (P:Program) (H:IH) (t:TypeId) (v:Value) (b off:Nat):Option ag:=
 match eI P t with
 |some false=>match P.info? t,v with
  |some i,.agg cs=>zL (if cs.size=i.size then H.dz b off cs.toList else none)
  |some i,v=>@Bool.rec (fun _=>Option ag) none (zL (X4 H b off v)) (Nat.beq i.size 1)
  |none,_=>none
 |_=>zL (gp P H t b off v)
theorem Wf (P:Program) (H:IH) (t:TypeId) (v:Value) (b off:Nat):Yr P H t v b off=(match gp P H t b off v with |some H=>some (.skip H) |none=>none):=by
 have sk:∀ r:Option IH,zL r=(match r with |some H=>some (.skip H) |none=>none):=fun r=>by cases r<;>rfl
 have one_:∀ (i:TypeInfo) (v:Value),P.info? t=some i->v.cells=#[v]->@Bool.rec (fun _=>Option ag) none (zL (X4 H b off v)) (Nat.beq i.size 1)=(match gp P H t b off v with |some H=>some (.skip H) |none=>none):=by
  intro i v hi hc;unfold gp;rw [hi];simp only [hc,WD,sk];cases hz:Nat.beq i.size 1 with
  |true=>
   have:=Nat.eq_of_beq_eq_true hz;rw [if_pos (by simpa using this.symm)]
  |false=>
   have:=Nat.ne_of_beq_eq_false hz;rw [if_neg (by simpa using fun e:1=i.size=>this e.symm)]
 unfold Yr;cases eI P t with
 |none=>exact sk _
 |some x=>
  cases x with
  |true=>exact sk _
  |false=>
   simp only;cases hi:P.info? t with
   |none=>
    have:gp P H t b off v=none:=by unfold gp;rw [hi]
    rw [this]
   |some i=>
    cases v with
    |agg cs=>
     show zL _=_
     rw [sk];unfold gp;rw [hi];rfl
    |_=>exact one_ i _ hi rfl
noncomputable def qT (P:Program) (H:IH) (t:TypeId) (a:Value):Option ag:=
 match a with
 | .pointer (some ⟨b,off,none⟩)=>@Option.rec Value (fun _=>Option ag) none (fun v=>some (.val v H)) (W1 P H t b off)
 |_=>none
theorem Iq (P:Program) (H:IH) (t:TypeId) (a:Value):qT P H t a=dq P H t a:=by
 unfold qT dq;cases a with
 |pointer p=>
  cases p with
  |none=>rfl
  |some ad=>
   obtain ⟨b,off,sp⟩:=ad;cases sp with
   |none=>simp only;rw [VY];cases iP P H t b off<;>rfl
   |some _=>rfl
 |_=>rfl
noncomputable def wu (P:Program) (H:IH) (t:TypeId) (a v:Value):Option ag:=
 match a with
 | .pointer (some ⟨b,off,none⟩)=>Yr P H t v b off
 |_=>none
theorem Hj (P:Program) (H:IH) (t:TypeId) (a v:Value):wu P H t a v=bT P H t a v:=by
 unfold wu bT;cases a with
 |pointer p=>
  cases p with
  |none=>rfl
  |some ad=>
   obtain ⟨b,off,sp⟩:=ad;cases sp with
   |none=>exact Wf P H t v b off
   |some _=>rfl
 |_=>rfl
noncomputable def PQ (i:Int) (n:Nat):Option Nat:=@Int.rec (fun _=>Option Nat) (fun a=>@Bool.rec (fun _=>Option Nat) none (some a) (Nat.ble (Nat.succ a) n)) (fun _=>none) i
theorem TJ (i:Int) (n:Nat):PQ i n=if 0<=i &&i<(n:Int) then some i.toNat else none:=by
 cases i with
 |ofNat a=>
  show @Bool.rec (fun _=>Option Nat) none (some a) (Nat.ble (Nat.succ a) n)=_
  rw [n8];by_cases h:a<n
  ·rw [decide_eq_true (show Nat.succ a<=n from h)];simp [h]
  ·rw [decide_eq_false (show ¬ Nat.succ a<=n from h)];simp [h]
 |negSucc a=>simp [PQ]
noncomputable def Ry (H:IH) (b off size:Nat) (r:Option Nat):Option ag:=@Option.rec Nat (fun _=>Option ag) none (fun i=>some (.val (.pointer (some ⟨b,Nat.add off (Nat.mul i size),none⟩)) H)) r
noncomputable def ko (P:Program) (H:IH) (t:TypeId) (x ix:Value):Option ag:=
 match P.underlying t,x,ix with
 |some (.array n e),.pointer (some ⟨b,off,none⟩),.int _ i=>match P.info? e with
  |some inf=>Ry H b off inf.size (PQ i n)
  |none=>none
 |some (.slice e),.slice (some ⟨b,off,none⟩) len _,.int _ i=>match P.info? e with
  |some inf=>Ry H b off inf.size (PQ i len)
  |none=>none
 |_,_,_=>none
theorem uu (P:Program) (H:IH) (t:TypeId) (x ix:Value):ko P H t x ix=bt P H t x ix:=by
 have pt:∀ (b off size n:Nat) (i:Int),Ry H b off size (PQ i n)=if 0<=i &&i<(n:Int) then some (.val (.pointer (some ⟨b,off+i.toNat*size,none⟩)) H) else none:=by
  intro b off size n i;rw [TJ];split<;>rfl
 unfold ko bt;simp only [pt];rfl
section ops
variable (P:Program) (self:Self)
noncomputable def yF (_:Operand->Value) (_:IH):Option ag:=none
noncomputable def UR (x:Operand) (Z:Operand->Value) (H:IH):Option ag:=some (.val (Z x) H)
noncomputable def U9 (c a b:Operand) (Z:Operand->Value) (H:IH):Option ag:=mb H (Z c) (Z a) (Z b)
noncomputable def RL (e:TypeId) (_:Operand->Value) (H:IH):Option ag:=fH P H e
noncomputable def XO (e:TypeId) (x:Operand) (Z:Operand->Value) (H:IH):Option ag:=nQ H e (Z x)
noncomputable def Sr (t:TypeId) (parts:Array (Nat×Operand)) (Z:Operand->Value) (H:IH):Option ag:=wy P H t (parts.toList.map fun p=>(p.1,Z p.2))
noncomputable def tg (t:TypeId) (len:Nat) (parts:Array (Nat×Operand)) (Z:Operand->Value) (H:IH):Option ag:=jl P H t len (parts.toList.map fun p=>(p.1,Z p.2))
noncomputable def vc (t:TypeId) (m k v:Operand) (Z:Operand->Value) (H:IH):Option ag:=eK P H t (Z m) (Z k) (Z v)
noncomputable def WO (t:TypeId) (a:Operand) (Z:Operand->Value) (H:IH):Option ag:=qT P H t (Z a)
noncomputable def R0 (t:TypeId) (a v:Operand) (Z:Operand->Value) (H:IH):Option ag:=wu P H t (Z a) (Z v)
noncomputable def W0 (x:Operand) (Z:Operand->Value) (H:IH):Option ag:=dZ H (Z x)
noncomputable def b2 (f:IntKind->Int->Int->Value) (alt:Option ag) (H:IH) (a b:Value):Option ag:=
 match a,b with
 | .int k n,.int k' m=>if k=k' then some (.val (f k n m) H) else none
 |_,_=>alt
noncomputable def B5 (op:BinOp) (t:TypeId) (x y:Operand) (a b:Value) (H:IH):Option ag:=aD P H op t x y a b
noncomputable def Yx (t:TypeId) (x y:Operand) (a b:Value) (H:IH):Option ag:=b2 (fun k n m=> .int k (Gz k (Vv n m))) (aD P H .add t x y a b) H a b
noncomputable def Ym (t:TypeId) (x y:Operand) (a b:Value) (H:IH):Option ag:=b2 (fun k n m=> .int k (Gz k (n - m))) (aD P H .sub t x y a b) H a b
noncomputable def YW (t:TypeId) (x y:Operand) (a b:Value) (H:IH):Option ag:=b2 (fun _ n m=> .bool (aR n m)) (aD P H .lss t x y a b) H a b
noncomputable def Yy (t:TypeId) (x y:Operand) (a b:Value) (H:IH):Option ag:=b2 (fun _ n m=> .bool (aQ n m)) (aD P H .leq t x y a b) H a b
noncomputable def YQ (t:TypeId) (x y:Operand) (a b:Value) (H:IH):Option ag:=b2 (fun _ n m=> .bool (aR m n)) (aD P H .gtr t x y a b) H a b
noncomputable def YS (t:TypeId) (x y:Operand) (a b:Value) (H:IH):Option ag:=b2 (fun _ n m=> .bool (aQ m n)) (aD P H .geq t x y a b) H a b
noncomputable def YJ (t:TypeId) (x y:Operand) (a b:Value) (H:IH):Option ag:=b2 (fun _ n m=> .bool (n==m)) (aD P H .eql t x y a b) H a b
noncomputable def Yg (t:TypeId) (x y:Operand) (a b:Value) (H:IH):Option ag:=b2 (fun _ n m=> .bool (n !=m)) (aD P H .neq t x y a b) H a b
noncomputable def Qf (op:BinOp) (t:TypeId) (x y:Operand) (_:TypeId) (Z:Operand->Value) (H:IH):Option ag:=
 @BinOp.rec (fun _=>TypeId->Operand->Operand->Value->Value->IH->Option ag) (Yx P) (Ym P) (B5 P .mul) (B5 P .quo) (B5 P .rem) (B5 P .and) (B5 P .or) (B5 P .xor) (B5 P .shl) (B5 P .shr) (B5 P .andNot)
  (YJ P) (Yg P) (YW P) (Yy P) (YQ P) (YS P) op t x y (Z x) (Z y) H
theorem Sz (op:BinOp) (t:TypeId) (x y:Operand) (yt:TypeId) (Z:Operand->Value) (H:IH):Qf P op t x y yt Z H=aD P H op t x y (Z x) (Z y):=by
 have key:∀ (f:IntKind->Int->Int->Value) (op:BinOp),(∀ k n m,aD P H op t x y (.int k n) (.int k m)=some (.val (f k n m) H))->(∀ k k' n m,k≠k'->aD P H op t x y (.int k n) (.int k' m)=none)->
   ∀ a b,b2 f (aD P H op t x y a b) H a b=aD P H op t x y a b:=by
  intro f op h1 h2 a b;unfold b2;split
  ·split
   ·rename_i h;subst h;exact (h1 _ _ _).symm
   ·rename_i h;exact (h2 _ _ _ _ h).symm
  ·rfl
 unfold Qf;cases op
 case add=>exact key _ _ (fun k n m=>by simp only [aD,if_true,Eo,TN]) (fun k k' n m h=>by simp only [aD,if_neg h]) _ _
 case sub=>exact key _ _ (fun k n m=>by simp only [aD,if_true,Eo]) (fun k k' n m h=>by simp only [aD,if_neg h]) _ _
 case lss=>exact key _ _ (fun k n m=>by simp only [aD,if_true]) (fun k k' n m h=>by simp only [aD,if_neg h]) _ _
 case leq=>exact key _ _ (fun k n m=>by simp only [aD,if_true]) (fun k k' n m h=>by simp only [aD,if_neg h]) _ _
 case gtr=>exact key _ _ (fun k n m=>by simp only [aD,if_true]) (fun k k' n m h=>by simp only [aD,if_neg h]) _ _
 case geq=>exact key _ _ (fun k n m=>by simp only [aD,if_true]) (fun k k' n m h=>by simp only [aD,if_neg h]) _ _
 case eql=>exact key _ _ (fun k n m=>by simp [aD,bR]) (fun k k' n m h=>by simp [aD,bR,h]) _ _
 case neq=>exact key _ _ (fun k n m=>by simp [aD,bR]) (fun k k' n m h=>by simp [aD,bR,h]) _ _
 all_goals rfl
noncomputable def Y9 (op:UnOp) (_:TypeId) (x:Operand) (Z:Operand->Value) (H:IH):Option ag:=Fp P H op (Z x)
noncomputable def UP (s d:TypeId) (x:Operand) (Z:Operand->Value) (H:IH):Option ag:=bb P H s d (Z x)
noncomputable def Xe (t:TypeId) (x:Operand) (Z:Operand->Value) (H:IH):Option ag:=dI P H t (Z x)
noncomputable def Xp (fn:Fn) (a c:Array Operand) (Z:Operand->Value) (H:IH):Option ag:=if eS fn then some (.val (.func fn ⟨a.toList.map Z⟩ ⟨c.toList.map Z⟩) H) else none
noncomputable def Xr (t:TypeId) (r:Option Operand) (Z:Operand->Value) (H:IH):Option ag:=cb P H t (r.map Z)
noncomputable def WZ (t:TypeId) (l c:Operand) (Z:Operand->Value) (H:IH):Option ag:=bg P H t (Z l) (Z c)
noncomputable def R6 (t:TypeId) (x:Operand) (lo hi mx:Option Operand) (Z:Operand->Value) (H:IH):Option ag:=cR P H t (Z x) (lo.map Z) (hi.map Z) (mx.map Z)
noncomputable def Zo (s:TypeId) (x:Operand) (f:Nat) (Z:Operand->Value) (H:IH):Option ag:=cA P H s (Z x) f
noncomputable def Zl (s:TypeId) (x:Operand) (f:Nat) (Z:Operand->Value) (H:IH):Option ag:=iZ P H s (Z x) f
noncomputable def Zc (t:TypeId) (x i:Operand) (Z:Operand->Value) (H:IH):Option ag:=ko P H t (Z x) (Z i)
noncomputable def Ze (t:TypeId) (x i:Operand) (Z:Operand->Value) (H:IH):Option ag:=gY P H t (Z x) (Z i)
noncomputable def Zn (t:TypeId) (x k:Operand) (ok:Bool) (Z:Operand->Value) (H:IH):Option ag:=cP P H t (Z x) (Z k) ok
noncomputable def PL (t:TypeId) (x:Operand) (Z:Operand->Value) (H:IH):Option ag:=mR P H t (Z x)
noncomputable def U5 (x:Operand) (s:Bool) (Z:Operand->Value) (H:IH):Option ag:=@Bool.rec (fun _=>Option ag) none (lI H (Z x)) s
noncomputable def Zj (x:Operand) (_ asserted:TypeId) (ok:Bool) (Z:Operand->Value) (H:IH):Option ag:=dk P H (Z x) asserted ok
noncomputable def Zk (x:Operand) (i:Nat) (Z:Operand->Value) (H:IH):Option ag:=fk H (Z x) i
noncomputable def QX (x:Operand) (Z:Operand->Value) (H:IH):Option ag:=pF H (Z x)
noncomputable def Qk (c:Call) (Z:Operand->Value) (H:IH):Option ag:=
 match c.callee with
 | .value f=>ky H (Z f) (c.args.toList.map Z)
 |_=>none
noncomputable def Ko (args:List Value) (H:IH) (fv:Value):Option ag:=
 match fv with
 | .func (.yield l) _ _=>match fu self l args H with
  |some (v,H)=>some (.val v H)
  |none=>none
 |fv=>ml (gE P self H fv args)
noncomputable def ZM (args:Array Operand) (argTypes:Array TypeId) (ty:TypeId) (Z:Operand->Value) (H:IH) (b:Builtin):Option ag:=bk P H b argTypes ty (args.toList.map Z)
noncomputable def YB (args:Array Operand) (Z:Operand->Value) (H:IH) (f:Operand):Option ag:=Ko P self (args.toList.map Z) H (Z f)
noncomputable def Xw (ty:TypeId) (c:Call) (Z:Operand->Value) (H:IH):Option ag:=
 @Callee.rec (fun _=>Option ag) (YB P self c.args Z H) (fun _ _=>none) (ZM P c.args c.argTypes ty Z H) c.callee
noncomputable def Bn (Z:Operand->Value) (H:IH) (o:Oper):Option ag:=
 @Op.rec (fun _=>(Operand->Value)->IH->Option ag)
  UR UR U9 (RL P) XO (Sr P) (tg P) (vc P) (WO P) (R0 P) (fun _=>yF) (fun _=>yF) W0 (Qf P) (Y9 P) (UP P) (fun _ _=>yF) (Xe P) Xp (Xr P) (fun _ _=>yF) (WZ P) (R6 P) (Zo P) (Zl P) (Zc P) (Ze P) (Zn P)
  (vc P) (fun _ _ _=>yF) (fun _ _ _ _=>yF) (PL P) U5 (fun _=>yF) (Zj P) Zk (Xw P self o.type) (fun _=>yF) Qk QX (fun _ _=>yF) (fun _ _ _=>yF) (fun _ _=>yF) o.op Z H
theorem jO (Z:Operand->Value) (H:IH) (o:Oper):Bn P self Z H o=aO P self Z H o:=by
 obtain ⟨dst,op,type,pos,after,guard⟩:=o;cases op
 case binOp op t x y yt=>exact Sz P op t x y yt Z H
 case next x s=>cases s<;>rfl
 case build t ps=>exact FV P H t _
 case buildSlice t n ps=>exact rG P H t n _
 case load t a=>exact Iq P H t _
 case store t a v=>exact Hj P H t _ _
 case indexAddr t x i=>exact uu P H t _ _
 case call c=>
  obtain ⟨callee,args,ats⟩:=c;cases callee with
  |value f=>
   show Ko P self (args.toList.map Z) H (Z f)=db P self Z H ⟨.value f,args,ats⟩ type
   unfold Ko db;rfl
  |invoke r n=>rfl
  |builtin b=>rfl
 all_goals rfl
end ops
noncomputable def Xn (want:Bool) (v:Value):Option Bool:=
 match v with
 | .bool b=>some (b==want)
 | .chan _=>none
 |_=>some false
noncomputable def Qb (fi:FI) (ops:Array Oper) (E:En) (g:Nat×Bool):Option Bool:=
 @Option.rec Nat (fun _=>Option Bool) (some false) (fun d=>Xn g.2 (SN fi E d)) ((ops[g.1]?).bind (·.dst))
theorem RB (fi:FI) (ops:Array Oper) (E:En) (o:Oper) (g:Nat×Bool) (h:o.guard=some g):Qb fi ops E g=bD fi ops E o:=by
 obtain ⟨j,b⟩:=g;unfold Qb bD;rw [h];simp only;cases (ops[j]?).bind (·.dst) with
 |none=>rfl
 |some d=>simp only [LQ];rfl
noncomputable def gF {R:Type} (no:R) (fi:FI) (ops:Array Oper) (E:En) (o:Oper) (a b:R):R:=
 @Option.rec (Nat×Bool) (fun _=>R) a (fun g=>@Option.rec Bool (fun _=>R) no (fun w=>@Bool.rec (fun _=>R) b a w) (Qb fi ops E g)) o.guard
theorem Vm {R:Type} (no:R) (fi:FI) (ops:Array Oper) (E:En) (o:Oper) (a b:R):gF no fi ops E o a b=(match bD fi ops E o with |some true=>a |some false=>b |none=>no):=by
 unfold gF;cases hg:o.guard with
 |none=>simp only [bD,hg]
 |some g=>
  simp only [RB fi ops E o g hg];cases bD fi ops E o with
  |none=>rfl
  |some w=>cases w<;>rfl
abbrev Nx:=AL->AL->IH->List Deferred->eW
noncomputable def eU (fi:FI) (loc tmp:AL) (t:Nat):Value:=@TW.rec (fun _=>Value) aS (WI loc t) (WI tmp t) (Ie fi t)
noncomputable def bW (fi:FI) (loc tmp:AL) (x:Operand):Value:=@Operand.rec (fun _=>Value) (eU fi loc tmp) UE Ur Xs x
theorem To (fi:FI) (loc tmp:AL):bW fi loc tmp=dy fi ⟨loc,tmp⟩:=kF fi ⟨loc,tmp⟩
noncomputable def Ys (fi:FI) (next:Nx) (loc tmp:AL) (H:IH) (D:List Deferred) (v:Value) (d:Nat):eW:=
 @TW.rec (fun _=>eW) (next loc tmp H D) (next (Rw loc d v) tmp H D) (next loc (.c d v tmp) H D) (Ie fi d)
noncomputable def tZ (fi:FI) (dst:Option Tmp) (next:Nx) (loc tmp:AL) (H:IH) (D:List Deferred) (v:Value):eW:=
 @Option.rec Nat (fun _=>eW) (next loc tmp H D) (Ys fi next loc tmp H D v) dst
theorem Kw (fi:FI) (dst:Option Tmp) (N:En->IH->List Deferred->eW) (loc tmp:AL) (H:IH) (D:List Deferred) (v:Value):
  tZ fi dst (fun l t=>N ⟨l,t⟩) loc tmp H D v=N (cY fi ⟨loc,tmp⟩ dst v) H D:=by
 cases dst with
 |none=>rfl
 |some d=>
  show @TW.rec (fun _=>eW) (N ⟨loc,tmp⟩ H D) (N ⟨Rw loc d v,tmp⟩ H D) (N ⟨loc,.c d v tmp⟩ H D) (Ie fi d)=N (nc fi d v ⟨loc,tmp⟩) H D
  unfold nc;rw [KN,CM];cases cls fi d<;>rfl
noncomputable def kG (fi:FI) (ro:Option Nat) (dst:Option Tmp) (next:Nx) (loc tmp:AL) (D:List Deferred) (r:Option ag):eW:=
 @Option.rec ag (fun _=>eW) none (fun r=>@ag.rec (fun _=>eW) (fun v H=>tZ fi dst next loc tmp H D v) (fun H=>tZ fi dst next loc tmp H D undef)
  (fun d H=>if ro.isNone then tZ fi dst next loc tmp H (d::D) undef else none) (fun v H=>some (.panic v,⟨loc,tmp⟩,H,D)) r) r
noncomputable def kV (fi:FI) (_ro:Option Nat) (dst:Option Tmp) (next:Nx) (loc tmp:AL) (H:IH) (D:List Deferred) (r:Option Value):eW:=
 @Option.rec Value (fun _=>eW) none (tZ fi dst next loc tmp H D) r
section step
variable (P:Program) (self:Self)
noncomputable def UU (x:Operand) (fi:FI) (_ro:Option Nat) (dst:Option Tmp) (next:Nx) (loc tmp:AL) (H:IH) (D:List Deferred):eW:=tZ fi dst next loc tmp H D (bW fi loc tmp x)
noncomputable def dM (h:(Operand->Value)->IH->Option ag) (fi:FI) (ro:Option Nat) (dst:Option Tmp) (next:Nx) (loc tmp:AL) (H:IH) (D:List Deferred):eW:=kG fi ro dst next loc tmp D (h (bW fi loc tmp) H)
noncomputable def s2 (fi:FI) (ro:Option Nat) (dst:Option Tmp) (next:Nx) (loc tmp:AL) (H:IH) (D:List Deferred) (f:IntKind->Int->Int->Value) (alt:Option ag) (a b:Value):eW:=
 match a,b with
 | .int k n,.int k' m=>if k=k' then tZ fi dst next loc tmp H D (f k n m) else none
 |_,_=>kG fi ro dst next loc tmp D alt
abbrev zf:=TypeId->Operand->Operand->FI->Option Nat->Option Tmp->Nx->AL->AL->IH->List Deferred->Value->Value->eW
noncomputable def C3 (op:BinOp):zf:=fun t x y fi ro dst next loc tmp H D a b=>kG fi ro dst next loc tmp D (aD P H op t x y a b)
noncomputable def Y5:zf:=fun t x y fi ro dst next loc tmp H D a b=>s2 fi ro dst next loc tmp H D (fun k n m=> .int k (Gz k (Vv n m))) (aD P H .add t x y a b) a b
noncomputable def YK:zf:=fun t x y fi ro dst next loc tmp H D a b=>s2 fi ro dst next loc tmp H D (fun k n m=> .int k (Gz k (n - m))) (aD P H .sub t x y a b) a b
noncomputable def YH:zf:=fun t x y fi ro dst next loc tmp H D a b=>s2 fi ro dst next loc tmp H D (fun _ n m=> .bool (aR n m)) (aD P H .lss t x y a b) a b
noncomputable def YC:zf:=fun t x y fi ro dst next loc tmp H D a b=>s2 fi ro dst next loc tmp H D (fun _ n m=> .bool (aQ n m)) (aD P H .leq t x y a b) a b
noncomputable def Y8:zf:=fun t x y fi ro dst next loc tmp H D a b=>s2 fi ro dst next loc tmp H D (fun _ n m=> .bool (aR m n)) (aD P H .gtr t x y a b) a b
noncomputable def YV:zf:=fun t x y fi ro dst next loc tmp H D a b=>s2 fi ro dst next loc tmp H D (fun _ n m=> .bool (aQ m n)) (aD P H .geq t x y a b) a b
noncomputable def Y0:zf:=fun t x y fi ro dst next loc tmp H D a b=>s2 fi ro dst next loc tmp H D (fun _ n m=> .bool (n==m)) (aD P H .eql t x y a b) a b
noncomputable def Y6:zf:=fun t x y fi ro dst next loc tmp H D a b=>s2 fi ro dst next loc tmp H D (fun _ n m=> .bool (n !=m)) (aD P H .neq t x y a b) a b
noncomputable def V7 (op:BinOp) (t:TypeId) (x y:Operand) (_:TypeId) (fi:FI) (ro:Option Nat) (dst:Option Tmp) (next:Nx) (loc tmp:AL) (H:IH) (D:List Deferred):eW:=
 @BinOp.rec (fun _=>zf) (Y5 P) (YK P) (C3 P .mul) (C3 P .quo) (C3 P .rem) (C3 P .and) (C3 P .or) (C3 P .xor) (C3 P .shl) (C3 P .shr) (C3 P .andNot)
  (Y0 P) (Y6 P) (YH P) (YC P) (Y8 P) (YV P) op t x y fi ro dst next loc tmp H D (bW fi loc tmp x) (bW fi loc tmp y)
noncomputable def O5 (t:TypeId) (a:Operand) (fi:FI) (ro:Option Nat) (dst:Option Tmp) (next:Nx) (loc tmp:AL) (H:IH) (D:List Deferred):eW:=
 match bW fi loc tmp a with
 | .pointer (some ⟨b,off,none⟩)=>kV fi ro dst next loc tmp H D (W1 P H t b off)
 |_=>none
noncomputable def Vt (t:TypeId) (H:IH) (x:Value):Option Value:=
 match P.underlying t,x with
 |some (.slice _),.slice _ n _=>some (.int .i64 (.ofNat n))
 |_,x=>eC P H t x
theorem SY (t:TypeId) (H:IH) (x:Value):Vt P t H x=eC P H t x:=by
 unfold Vt;split
 ·rename_i e a n c hu
  unfold eC;rw [hu];rfl
 ·rfl
noncomputable def sLen (ats:Array TypeId) (fi:FI) (ro:Option Nat) (dst:Option Tmp) (next:Nx) (loc tmp:AL) (H:IH) (D:List Deferred) (x:Operand):eW:=
 @Option.rec Nat (fun _=>eW) none (fun t=>kV fi ro dst next loc tmp H D (Vt P t H (bW fi loc tmp x))) ats[0]?
noncomputable def YA (args:Array Operand) (ats:Array TypeId) (ty:TypeId) (fi:FI) (ro:Option Nat) (dst:Option Tmp) (next:Nx) (loc tmp:AL) (H:IH) (D:List Deferred) (b:Builtin):eW:=
 match b,args.toList with
 | .len,[x]=>sLen P ats fi ro dst next loc tmp H D x
 |b,l=>kG fi ro dst next loc tmp D (bk P H b ats ty (l.map (bW fi loc tmp)))
noncomputable def WQ (ty:TypeId) (c:Call) (fi:FI) (ro:Option Nat) (dst:Option Tmp) (next:Nx) (loc tmp:AL) (H:IH) (D:List Deferred):eW:=
 @Callee.rec (fun _=>eW) (fun f=>kG fi ro dst next loc tmp D (Ko P self (c.args.toList.map (bW fi loc tmp)) H (bW fi loc tmp f))) (fun _ _=>none) (YA P c.args c.argTypes ty fi ro dst next loc tmp H D) c.callee
noncomputable def stepG (o:Oper):FI->Option Nat->Option Tmp->Nx->AL->AL->IH->List Deferred->eW:=
 @Op.rec (fun _=>FI->Option Nat->Option Tmp->Nx->AL->AL->IH->List Deferred->eW)
  UU UU (fun c a b=>dM (U9 c a b)) (fun e=>dM (RL P e)) (fun e x=>dM (XO e x)) (fun t ps=>dM (Sr P t ps)) (fun t n ps=>dM (tg P t n ps)) (fun t m k v=>dM (vc P t m k v))
  (O5 P) (fun t a v=>dM (R0 P t a v)) (fun _=>dM yF) (fun _=>dM yF) (fun x=>dM (W0 x)) (V7 P) (fun op t x=>dM (Y9 P op t x)) (fun s d x=>dM (UP P s d x)) (fun _ _=>dM yF) (fun t x=>dM (Xe P t x))
  (fun fn a c=>dM (Xp fn a c)) (fun t r=>dM (Xr P t r)) (fun _ _=>dM yF) (fun t l c=>dM (WZ P t l c)) (fun t x l h m=>dM (R6 P t x l h m)) (fun s x f=>dM (Zo P s x f)) (fun s x f=>dM (Zl P s x f)) (fun t x i=>dM (Zc P t x i)) (fun t x i=>dM (Ze P t x i))
  (fun t x k ok=>dM (Zn P t x k ok)) (fun t m k v=>dM (vc P t m k v)) (fun _ _ _=>dM yF) (fun _ _ _ _=>dM yF) (fun t x=>dM (PL P t x)) (fun x s=>dM (U5 x s)) (fun _=>dM yF) (fun x xt t ok=>dM (Zj P x xt t ok)) (fun x i=>dM (Zk x i))
  (WQ P self o.type) (fun _=>dM yF) (fun c=>dM (Qk c)) (fun x=>dM (QX x)) (fun _ _=>dM yF) (fun _ _ _=>dM yF) (fun _ _=>dM yF) o.op
theorem Qy (o:Oper) (fi:FI) (ro:Option Nat) (dst:Option Tmp) (next:Nx) (loc tmp:AL) (H:IH) (D:List Deferred):stepG P self o fi ro dst next loc tmp H D=kG fi ro dst next loc tmp D (aO P self (dy fi ⟨loc,tmp⟩) H o):=by
 rw [←To,←jO];obtain ⟨dst',op,type,pos,after,guard⟩:=o;cases op
 case load t a=>
  show O5 P t a fi ro dst next loc tmp H D=kG fi ro dst next loc tmp D (qT P H t (bW fi loc tmp a))
  unfold O5 qT;cases bW fi loc tmp a with
  |pointer p=>
   cases p with
   |none=>rfl
   |some ad=>
    obtain ⟨b,off,sp⟩:=ad;cases sp with
    |none=>
     simp only;cases W1 P H t b off<;>rfl
    |some _=>rfl
  |_=>rfl
 case binOp op t x y yt=>
  show V7 P op t x y yt fi ro dst next loc tmp H D=kG fi ro dst next loc tmp D (Qf P op t x y yt (bW fi loc tmp) H)
  have key:∀ (f:IntKind->Int->Int->Value) (alt:Option ag) (a b:Value),s2 fi ro dst next loc tmp H D f alt a b=kG fi ro dst next loc tmp D (b2 f alt H a b):=by
   intro f alt a b;unfold s2 b2;split
   ·split<;>rfl
   ·rfl
  unfold V7 Qf;cases op<;>first |rfl |exact key _ _ _ _
 case call c=>
  obtain ⟨callee,args,ats⟩:=c;cases callee with
  |value f=>rfl
  |invoke r n=>rfl
  |builtin b=>
   show YA P args ats type fi ro dst next loc tmp H D b=kG fi ro dst next loc tmp D (bk P H b ats type (args.toList.map (bW fi loc tmp)))
   unfold YA;split
   ·rename_i x hx
    rw [hx];unfold sLen;simp only [List.map_cons,List.map_nil,bk,SY];cases ats[0]? with
    |none=>rfl
    |some t=>
     simp only;cases eC P H t (bW fi loc tmp x)<;>rfl
   ·rfl
 all_goals rfl
end step
noncomputable def fQ (P:Program) (self:Self) (fi:FI) (ro:Option Nat) (ops:Array Oper) (l:List Oper):Nx:=
 @List.rec Oper (fun _=>Nx) (fun loc tmp H D=>some (.normal,⟨loc,tmp⟩,H,D))
  (fun o _ ih loc tmp H D=>@Option.rec (Nat×Bool) (fun _=>eW) (stepG P self o fi ro o.dst ih loc tmp H D)
   (fun _=>gF none fi ops ⟨loc,tmp⟩ o (stepG P self o fi ro o.dst ih loc tmp H D) (tZ fi o.dst ih loc tmp H D undef)) o.guard) l
noncomputable def Qh (P:Program) (self:Self) (fi:FI) (ro:Option Nat) (ops:Array Oper) (l:List Oper) (E:En):IH->List Deferred->eW:=fQ P self fi ro ops l E.loc E.tmp
theorem Me (P:Program) (self:Self) (fi:FI) (ro:Option Nat) (ops:Array Oper) (l:List Oper):∀ loc tmp H D,fQ P self fi ro ops l loc tmp H D=cV P self fi ro ops l ⟨loc,tmp⟩ H D:=by
 induction l with
 |nil=>intro loc tmp H D;rfl
 |cons o l ih=>
  intro loc tmp H D;have hn:fQ P self fi ro ops l=fun l1 t1=>(fun E=>cV P self fi ro ops l E) ⟨l1,t1⟩:=by
   funext l1 t1 H1 D1;exact ih l1 t1 H1 D1
  have hstep:stepG P self o fi ro o.dst (fQ P self fi ro ops l) loc tmp H D=(match aO P self (dy fi ⟨loc,tmp⟩) H o with
    |some (.val v H)=>cV P self fi ro ops l (cY fi ⟨loc,tmp⟩ o.dst v) H D
    |some (.skip H)=>cV P self fi ro ops l (cY fi ⟨loc,tmp⟩ o.dst undef) H D
    |some (.defer d H)=>if ro.isNone then cV P self fi ro ops l (cY fi ⟨loc,tmp⟩ o.dst undef) H (d::D) else none
    |some (.panic v H)=>some (.panic v,⟨loc,tmp⟩,H,D)
    |none=>none):=by
   rw [Qy,hn];unfold kG;simp only [Kw];cases aO P self (dy fi ⟨loc,tmp⟩) H o with
   |none=>rfl
   |some r=>cases r<;>rfl
  have hoff:tZ fi o.dst (fQ P self fi ro ops l) loc tmp H D undef=cV P self fi ro ops l (cY fi ⟨loc,tmp⟩ o.dst undef) H D:=by
   rw [hn,Kw]
  show @Option.rec (Nat×Bool) (fun _=>eW) (stepG P self o fi ro o.dst (fQ P self fi ro ops l) loc tmp H D)
   (fun _=>gF none fi ops ⟨loc,tmp⟩ o (stepG P self o fi ro o.dst (fQ P self fi ro ops l) loc tmp H D) (tZ fi o.dst (fQ P self fi ro ops l) loc tmp H D undef)) o.guard=_
  have e:@Option.rec (Nat×Bool) (fun _=>eW) (stepG P self o fi ro o.dst (fQ P self fi ro ops l) loc tmp H D)
   (fun _=>gF none fi ops ⟨loc,tmp⟩ o (stepG P self o fi ro o.dst (fQ P self fi ro ops l) loc tmp H D) (tZ fi o.dst (fQ P self fi ro ops l) loc tmp H D undef)) o.guard=
    gF none fi ops ⟨loc,tmp⟩ o (stepG P self o fi ro o.dst (fQ P self fi ro ops l) loc tmp H D) (tZ fi o.dst (fQ P self fi ro ops l) loc tmp H D undef):=by
   unfold gF;cases o.guard<;>rfl
  rw [e,Vm,hstep,hoff]
  conv=>rhs;unfold cV
  rfl
theorem Na (P:Program) (self:Self) (fi:FI) (ro:Option Nat) (ops:Array Oper) (l:List Oper) (E:En) (H:IH) (D:List Deferred):Qh P self fi ro ops l E H D=cV P self fi ro ops l E H D:=
 Me P self fi ro ops l E.loc E.tmp H D
noncomputable def U8 (P:Program) (self:Self) (fi:FI) (_n0 _i:Nat) (o:Oper) (_m:Nat) (s:DS):DR:=
 match Bn P self (Hu fi s.T) s.H o with
 |some (.val v _)=> .done { s with T:=vv fi s.T o.dst v }
 |_=> .fail
noncomputable def mE (P:Program) (self:Self) (fi:FI) (T:En) (H:IH) (o:Oper) (v:Value):Bool:=
 match Bn P self (Hu fi T) H o with
 |some (.val v' _)=>k8 v v'
 |_=>false
theorem wo (P:Program) (self:Self) (fi:FI) (T:En) (H:IH) (o:Oper) (v:Value):mE P self fi T H o v=sameAt P self fi T H o v:=by
 unfold mE sameAt zy;rw [jO,kF];cases aO P self (dy fi T) H o with
 |none=>rfl
 |some r=>cases r<;>rfl
noncomputable def oK (P:Program) (self:Self) (fi:FI) (T:En) (o:Oper) (v:Value) (m:Nat) (l:List (Nat×IH)):Bool:=
 @List.rec (Nat×IH) (fun _=>Bool) true (fun p _ ih=>@Bool.rec (fun _=>Bool) (@Bool.rec (fun _=>Bool) false ih (mE P self fi T p.2 o v)) ih (IJ m p.1)) l
theorem EI (P:Program) (self:Self) (fi:FI) (T:En) (o:Oper) (v:Value) (m:Nat) (l:List (Nat×IH)):oK P self fi T o v m l=fw P self fi T o v m l:=by
 induction l with
 |nil=>rfl
 |cons p l ih=>
  obtain ⟨c,Hc⟩:=p
  show @Bool.rec (fun _=>Bool) (@Bool.rec (fun _=>Bool) false (oK P self fi T o v m l) (mE P self fi T Hc o v)) (oK P self fi T o v m l) (IJ m c)=_
  rw [ih,wo,lz];simp only [fw];cases m.testBit c<;>cases sameAt P self fi T Hc o v<;>rfl
noncomputable def lh (P:Program) (self:Self) (fi:FI) (H:IH) (m:Nat) (l:List Rd):Bool:=
 @List.rec Rd (fun _=>Bool) true (fun r _ ih=>@Bool.rec (fun _=>Bool) (@Bool.rec (fun _=>Bool) false ih (mE P self fi r.T H r.o r.v)) ih (IJ m r.i)) l
theorem Fj (P:Program) (self:Self) (fi:FI) (H:IH) (m:Nat) (l:List Rd):lh P self fi H m l=gd P self fi H m l:=by
 induction l with
 |nil=>rfl
 |cons r l ih=>
  show @Bool.rec (fun _=>Bool) (@Bool.rec (fun _=>Bool) false (lh P self fi H m l) (mE P self fi r.T H r.o r.v)) (lh P self fi H m l) (IJ m r.i)=_
  rw [ih,wo,lz];simp only [gd];cases m.testBit r.i<;>cases sameAt P self fi r.T H r.o r.v<;>rfl
noncomputable def yr (m:Nat) (l:List (Nat×IH)):Bool:=@List.rec (Nat×IH) (fun _=>Bool) true (fun p _ ih=>@Bool.rec (fun _=>Bool) false ih (IJ m p.1)) l
theorem DV (m:Nat) (l:List (Nat×IH)):yr m l=chained m l:=by
 induction l with
 |nil=>rfl
 |cons p l ih=>
  obtain ⟨c,Hc⟩:=p
  show @Bool.rec (fun _=>Bool) false (yr m l) (IJ m c)=_
  rw [ih,lz];simp only [chained];cases m.testBit c<;>rfl
noncomputable def XZ (m:Nat) (l:List (Nat×bB)):List (Nat×bB):=@List.rec (Nat×bB) (fun _=>List (Nat×bB)) [] (fun p _ ih=>@Bool.rec (fun _=>List (Nat×bB)) ih (p::ih) (IJ m p.1)) l
theorem WC (m:Nat) (l:List (Nat×bB)):XZ m l=l.filter fun x=>m.testBit x.1:=by
 induction l with
 |nil=>rfl
 |cons p l ih=>
  show @Bool.rec (fun _=>List (Nat×bB)) (XZ m l) (p::XZ m l) (IJ m p.1)=_
  rw [ih,lz,List.filter_cons];cases m.testBit p.1<;>rfl
noncomputable def ON (m:Nat) (l:List (Nat×bB)):List (Nat×bB):=@List.rec (Nat×bB) (fun _=>List (Nat×bB)) [] (fun p _ ih=>@Bool.rec (fun _=>List (Nat×bB)) (p::ih) ih (IJ m p.1)) l
theorem UA (m:Nat) (l:List (Nat×bB)):ON m l=l.filter fun x=> !m.testBit x.1:=by
 induction l with
 |nil=>rfl
 |cons p l ih=>
  show @Bool.rec (fun _=>List (Nat×bB)) (p::ON m l) (ON m l) (IJ m p.1)=_
  rw [ih,lz,List.filter_cons];cases m.testBit p.1<;>rfl
noncomputable def Ve (P:Program) (self:Self) (fi:FI) (_n0 i:Nat) (o:Oper) (m:Nat) (s:DS):DR:=
 match Bn P self (Hu fi s.T) s.H o with
 |some (.val v _)=>@Bool.rec (fun _=>DR) .fail (.done { s with T:=vv fi s.T o.dst v,reads:=⟨i,o,s.T,v⟩::s.reads }) (oK P self fi s.T o v m s.bP)
 |_=> .fail
noncomputable def OD (P:Program) (self:Self) (fi:FI) (n0 i:Nat) (o:Oper) (_m:Nat) (s:DS):DR:=
 match Bn P self (Hu fi s.T) { s.H with n:=n0+i } o with
 |some (.val v H')=>match H'.get (n0+i) with
  |some ob=> .done { s with T:=vv fi s.T o.dst v,bu:=(i,ob)::s.bu }
  |none=> .fail
 |_=> .fail
noncomputable def Lc (P:Program) (self:Self) (fi:FI) (i:Nat) (dst:Option Tmp) (m:Nat) (s:DS) (r:Option ag):DR:=
 match r with
 |some (.val v H')=>@Bool.rec (fun _=>DR) .fail (.done { T:=vv fi s.T dst v,H:=H',bu:=ON m s.bu,bP:=(i,s.H)::s.bP,reads:=s.reads }) (lh P self fi H' m s.reads)
 |some (.skip H')=>@Bool.rec (fun _=>DR) .fail (.done { T:=vv fi s.T dst undef,H:=H',bu:=ON m s.bu,bP:=(i,s.H)::s.bP,reads:=s.reads }) (lh P self fi H' m s.reads)
 |some (.panic v H')=> .panic v H'
 |_=> .fail
noncomputable def Pr (P:Program) (self:Self) (fi:FI) (n0 i:Nat) (o:Oper) (m:Nat) (s:DS):DR:=
 @Bool.rec (fun _=>DR) .fail (Lc P self fi i o.dst m s (Bn P self (Hu fi s.T) (au n0 (XZ m s.bu) s.H) o)) (yr m s.bP)
noncomputable def im (P:Program) (self:Self) (fi:FI) (ops:Array Oper) (n0 i:Nat) (o:Oper) (m:Nat) (s:DS):DR:=
 gF .fail fi ops s.T o (@Kind.rec (fun _=>Program->Self->FI->Nat->Nat->Oper->Nat->DS->DR) U8 Ve OD Pr (kindOf P o) P self fi n0 i o m s) (.done { s with T:=vv fi s.T o.dst undef })
theorem kh {R:Type} (b:Bool) (x y:R):@Bool.rec (fun _=>R) y x b=if b=true then x else y:=by cases b<;>rfl
theorem pE (P:Program) (self:Self) (fi:FI) (ops:Array Oper) (n0 i:Nat) (o:Oper) (m:Nat) (s:DS):im P self fi ops n0 i o m s=dH P self fi ops n0 i o m s:=by
 unfold im dH;rw [Vm];split
 ·rename_i hw
  rw [hw];simp only;cases hk:kindOf P o with
  |pure=>
   simp only [U8,jO,kF,l4];cases aO P self (dy fi s.T) s.H o with
   |none=>rfl
   |some r=>cases r<;>rfl
  |read=>
   simp only [Ve,jO,kF,l4,kh,EI];cases aO P self (dy fi s.T) s.H o with
   |none=>rfl
   |some r=>cases r<;>rfl
  |fresh=>
   simp only [OD,jO,kF,l4];cases aO P self (dy fi s.T) { s.H with n:=n0+i } o with
   |none=>rfl
   |some r=>cases r<;>rfl
  |chain=>
   simp only [Pr,Lc,jO,kF,l4,kh,Fj,WC,UA,DV];cases chained m s.bP with
   |false=>rfl
   |true=>
    simp only [if_true];cases aO P self (dy fi s.T) (au n0 (s.bu.filter fun x=>m.testBit x.1) s.H) o with
    |none=>rfl
    |some r=>cases r<;>rfl
 ·rename_i hw;rw [hw];simp only [l4]
 ·rename_i hw;rw [hw]
noncomputable def OJ (next:Nat->List Nat->DS->Option (Nat×Value×IH)->DR) (i:Nat) (ms:List Nat) (s:DS) (r:DR):DR:=
 @DR.rec (fun _=>DR) (fun s'=>next (i+1) ms s' none) (fun v H=>next (i+1) ms { s with bP:=(i,s.H)::s.bP } (some (i,v,H))) .fail r
noncomputable def CE (next:Nat->List Nat->DS->Option (Nat×Value×IH)->DR) (i:Nat) (ms:List Nat) (px:Nat×Value×IH) (r:DR):DR:=
 match r with
 | .done s'=>next (i+1) ms s' (some px)
 |_=> .fail
noncomputable def X8 (s:DS) (px:Option (Nat×Value×IH)):DR:=
 match px with
 |none=> .done s
 |some (_,v,H)=> .panic v H
noncomputable def iU (P:Program) (self:Self) (fi:FI) (ops:Array Oper) (n0:Nat) (l:List Oper):Nat->List Nat->DS->Option (Nat×Value×IH)->DR:=
 @List.rec Oper (fun _=>Nat->List Nat->DS->Option (Nat×Value×IH)->DR) (fun _ _ s px=>X8 s px)
  (fun o _ ih i ms s px=>@List.rec Nat (fun _=>DR) .fail (fun m ms _=>@Option.rec (Nat×Value×IH) (fun _=>DR) (OJ ih i ms s (im P self fi ops n0 i o m s))
   (fun px=>@Bool.rec (fun _=>DR) (CE ih i ms px (im P self fi ops n0 i o m s)) (ih (i+1) ms s (some px)) (IJ m px.1)) px) ms) l
theorem yL (P:Program) (self:Self) (fi:FI) (ops:Array Oper) (n0:Nat) (l:List Oper):∀ i ms s px,iU P self fi ops n0 l i ms s px=aU P self fi ops n0 l i ms s px:=by
 induction l with
 |nil=>intro i ms s px;cases px<;>rfl
 |cons o l ih=>
  intro i ms s px;cases ms with
  |nil=>cases px<;>rfl
  |cons m ms=>
   cases px with
   |none=>
    show OJ (iU P self fi ops n0 l) i ms s (im P self fi ops n0 i o m s)=_
    rw [pE];unfold aU OJ;cases dH P self fi ops n0 i o m s with
    |done s'=>exact ih _ _ _ _
    |panic v H=>exact ih _ _ _ _
    |fail=>rfl
   |some px=>
    obtain ⟨c,v,H⟩:=px
    show @Bool.rec (fun _=>DR) (CE (iU P self fi ops n0 l) i ms (c,v,H) (im P self fi ops n0 i o m s)) (iU P self fi ops n0 l (i+1) ms s (some (c,v,H))) (IJ m c)=_
    rw [pE,ih,lz];unfold CE
    conv=>rhs;unfold aU
    cases m.testBit c with
    |true=>rfl
    |false=>
     cases dH P self fi ops n0 i o m s with
     |done s'=>exact ih _ _ _ _
     |panic v H=>rfl
     |fail=>rfl
noncomputable def Ux {α:Type} (l:List α):(Nat->α->Bool)->Nat->Bool:=@List.rec α (fun _=>(Nat->α->Bool)->Nat->Bool) (fun _ _=>true) (fun a _ ih p i=>@Bool.rec (fun _=>Bool) false (ih p (Nat.succ i)) (p i a)) l
theorem K4 {α:Type} (p:Nat->α->Bool) (d:Bool) (l:List α):∀ k,Ux l p k=(List.range l.length).all (fun i=>(l[i]?).elim d (p (k+i))):=by
 induction l with
 |nil=>intro k;rfl
 |cons a l ih=>
  intro k
  show @Bool.rec (fun _=>Bool) false (Ux l p (k+1)) (p k a)=_
  rw [ih,zad,List.range_succ_eq_map,List.all_cons,List.all_map];have e:((fun i=>((a::l)[i]?).elim d (p (k+i)))∘Nat.succ)=fun i=>(l[i]?).elim d (p (k+1+i)):=by
   funext i;simp only [Function.comp_apply,List.getElem?_cons_succ];cases l[i]? with
   |none=>rfl
   |some x=>simp only [Nat.succ_eq_add_one,Option.elim];congr 1;omega
  rw [e];simp only [List.getElem?_cons_zero,Nat.add_zero,Option.elim];cases p k a<;>rfl
theorem VL (a b:Nat):Nat.beq a b=(a==b):=by
 rw [Bool.eq_iff_iff,Nat.beq_eq];simp
noncomputable def W2 (x:Option Tmp) (t:Nat):Bool:=@Option.rec Nat (fun _=>Bool) false (fun u=>Nat.beq u t) x
theorem TC (x:Option Tmp) (t:Nat):W2 x t=(x==some t):=by
 cases x with
 |none=>rfl
 |some u=>exact VL u t
noncomputable def OI (ms looks:List Nat) (d:Option Tmp) (m i j t:Nat):Bool:=
 @Bool.rec (fun _=>Bool) false
  (@Bool.rec (fun _=>Bool) (@Bool.rec (fun _=>Bool) (@Bool.rec (fun _=>Bool) true false (Mv looks t)) true (IJ (@Option.rec Nat (fun _=>Nat) 0 (fun n=>n) (So ms j)) i)) true (IJ m j))
  (@Bool.rec (fun _=>Bool) (@Bool.rec (fun _=>Bool) true false (W2 d t)) true (Nat.beq j i))
noncomputable def Qc (ms looks:List Nat) (d:Option Tmp) (m i j:Nat) (oj:Oper):Bool:=@Option.rec Nat (fun _=>Bool) true (OI ms looks d m i j) oj.dst
noncomputable def Rc (i:Nat) (l:List Edge):Bool:=@List.rec Edge (fun _=>Bool) true (fun e _ ih=>@Bool.rec (fun _=>Bool) false ih (@Bool.rec (fun _=>Bool) true (Nat.ble (Nat.succ e.on) i) (Region.binds .any e))) l
noncomputable def Va (ops:Array Oper) (ms:List Nat) (i:Nat) (o:Oper):Bool:=
 @Option.rec Nat (fun _=>Bool) false (fun m=>@Bool.rec (fun _=>Bool) false (Ux ops.toList (Qc ms (o.looksAt ops) o.dst m i) 0) (Rc i o.after.toList)) (So ms i)
noncomputable def rF (ops:Array Oper) (ms:List Nat):Bool:=Ux ops.toList (Va ops ms) 0
theorem zu (l:List Nat) (t:Nat):Mv l t=l.contains t:=by
 induction l with
 |nil=>rfl
 |cons k l ih=>
  show @Bool.rec (fun _=>Bool) (Mv l t) true (Nat.beq k t)=_
  rw [ih,List.contains_cons];have:Nat.beq k t=(t==k):=by
   rw [VL];exact Bool.beq_comm
  rw [this];cases t==k<;>rfl
theorem BR (ops:Array Oper) (ms:List Nat):rF ops ms=jC ops ms:=by
 unfold rF jC;rw [K4 _ false ops.toList 0];have hsz:ops.toList.length=ops.size:=Array.length_toList;rw [hsz]
 congr 1
 funext i;rw [←Array.getElem?_toList];cases ho:ops.toList[i]? with
 |none=>rfl
 |some o=>
  simp only [Nat.zero_add,Option.elim];unfold Va;rw [CZ];cases hm:ms[i]? with
  |none=>rfl
  |some m=>
   simp only;have hback:∀ l:List Edge,Rc i l=l.all (fun e=> !Region.binds .any e ||decide (e.on<i)):=by
    intro l
    induction l with
    |nil=>rfl
    |cons e l ih=>
     show @Bool.rec (fun _=>Bool) false (Rc i l) (@Bool.rec (fun _=>Bool) true (Nat.ble (Nat.succ e.on) i) (Region.binds .any e))=_
     rw [ih,n8,List.all_cons];have:decide (Nat.succ e.on<=i)=decide (e.on<i):=rfl;rw [this];cases Region.binds .any e<;>cases decide (e.on<i)<;>rfl
   rw [hback,K4 _ true ops.toList 0,hsz]
   have hin:(List.range ops.size).all (fun j=>(ops.toList[j]?).elim true (Qc ms (o.looksAt ops) o.dst m i (0+j)))=
     (List.range ops.size).all fun j=>match ops[j]? with
      |some oj=>match oj.dst with
       |none=>true
       |some t=>(j==i ||o.dst !=some t) &&(m.testBit j ||(ms.getD j 0).testBit i || !(o.looksAt ops).contains t)
      |none=>true:=by
    congr 1
    funext j;rw [←Array.getElem?_toList];cases ops.toList[j]? with
    |none=>rfl
    |some oj=>
     simp only [Nat.zero_add,Option.elim];unfold Qc;cases oj.dst with
     |none=>rfl
     |some t=>
      show OI ms (o.looksAt ops) o.dst m i j t=_
      unfold OI;rw [CZ,lz,lz,zu,TC];have hg:(@Option.rec Nat (fun _=>Nat) 0 (fun n=>n) ms[j]?)=ms.getD j 0:=by
       rw [List.getD_eq_getElem?_getD];cases ms[j]? <;>rfl
      rw [hg];have hj:Nat.beq j i=(j==i):=VL j i;rw [hj];simp only [bne];cases (j==i)<;>cases (o.dst==some t)<;>cases m.testBit j<;>cases (ms.getD j 0).testBit i<;>cases (o.looksAt ops).contains t<;>rfl
   refine (congrArg (fun b=>@Bool.rec (fun _=>Bool) false b (o.after.toList.all fun e=> !Region.binds .any e ||decide (e.on<i))) hin).trans ?_;cases o.after.toList.all (fun e=> !Region.binds .any e ||decide (e.on<i))<;>rfl
noncomputable def Kf (fi:FI) (ops:Array Oper) (T:En) (n0:Nat) (D:List Deferred) (r:DR):eW:=
 @DR.rec (fun _=>eW) (fun s=>some (.normal,s.T,au n0 s.bu s.H,D)) (fun v H=>some (.panic v,fV fi ops.toList T,H,D)) none r
noncomputable def BS (P:Program) (self:Self) (fi:FI) (ops:Array Oper) (T:En) (H:IH) (D:List Deferred):eW:=
 @Bool.rec (fun _=>eW) none (Kf fi ops T H.n D (iU P self fi ops H.n ops.toList 0 (cU ops.toList []) ⟨T,{ H with n:=H.n+fX P ops },[],[],[]⟩ none)) (rF ops (cU ops.toList []))
theorem IP (P:Program) (self:Self) (fi:FI) (ops:Array Oper) (T:En) (H:IH) (D:List Deferred):BS P self fi ops T H D=lY P self fi ops T H D:=by
 unfold BS lY Kf;rw [yL,kh,BR];simp only;split
 ·cases aU P self fi ops H.n ops.toList 0 (cU ops.toList []) ⟨T,{ H with n:=H.n+fX P ops },[],[],[]⟩ none<;>rfl
 ·rfl
noncomputable def Xc (xn:En->IH->List Deferred->eW) (r:eW):eW:=
 @Option.rec (X×En×IH×List Deferred) (fun _=>eW) none (fun p=>@Prod.rec X (En×IH×List Deferred) (fun _=>eW) (fun x p=>@X.rec (fun _=>eW) (xn p.1 p.2.1 p.2.2) (fun id=>some (.exit id,p)) (some (.ret,p)) (fun v=>some (.panic v,p)) x) p) r
theorem Se (xn:En->IH->List Deferred->eW) (r:eW):Xc xn r=(match r with |some (.normal,T,H,D)=>xn T H D |r=>r):=by
 cases r with
 |none=>rfl
 |some p=>obtain ⟨x,T,H,D⟩:=p;cases x<;>rfl
noncomputable def PH (id:Nat) (r:eW):eW:=
 @Option.rec (X×En×IH×List Deferred) (fun _=>eW) none (fun p=>@Prod.rec X (En×IH×List Deferred) (fun _=>eW) (fun x p=>@X.rec (fun _=>eW) (some (.normal,p)) (fun j=>@Bool.rec (fun _=>eW) (some (.exit j,p)) (some (.normal,p)) (Nat.beq j id)) (some (.ret,p)) (fun v=>some (.panic v,p)) x) p) r
theorem Sn (id:Nat) (r:eW):PH id r=(match r with |some (.exit j,T,H,D)=>if j=id then some (.normal,T,H,D) else some (.exit j,T,H,D) |r=>r):=by
 cases r with
 |none=>rfl
 |some p=>
  obtain ⟨x,T,H,D⟩:=p;cases x with
  |exit j=>
   show @Bool.rec (fun _=>eW) (some (.exit j,T,H,D)) (some (.normal,T,H,D)) (Nat.beq j id)=_
   cases hb:Nat.beq j id with
   |true=>simp [Nat.eq_of_beq_eq_true hb]
   |false=>simp [Nat.ne_of_beq_eq_false hb]
  |_=>rfl
noncomputable def Yz (a b:En->IH->List Deferred->eW) (T:En) (H:IH) (D:List Deferred) (v:Value):eW:=
 match v with
 | .bool c=>@Bool.rec (fun _=>eW) (b T H D) (a T H D) c
 |_=>none
noncomputable def gb (P:Program) (self:Self) (fi:FI) (ro:Option Nat) (c:Code):En->IH->List Deferred->eW:=
 @Code.rec (fun _=>En->IH->List Deferred->eW)
  (fun T H D=>some (.normal,T,H,D))
  (fun _ ops d T H D=>@Bool.rec (fun _=>eW) (Qh P self fi ro ops ops.toList T.reset H D) (BS P self fi ops T.reset H D) d)
  (fun _ _ ia ib T H D=>Xc ib (ia T H D))
  (fun c _ _ ia ib T H D=>Yz ia ib T H D (Hu fi T c))
  (fun id _ ic T H D=>PH id (ic T H D))
  (fun c ic T H D=>Xc (self.code fi ro (.loop c)) (ic T H D))
  (fun f ps dW body _ _ T H D=>aA P self fi ro (.rangeFunc f ps dW body) T H D)
  (fun id T H D=>some (.exit id,T,H,D))
  (fun _ ic T H D=>ic T H D)
  (fun _ T H D=>some (.normal,T,H,D))
  (fun _ _ _ _=>none)
  (fun T H D=>some (.ret,T,H,D))
  (fun _ _ _ _=>none) c
theorem xW (P:Program) (self:Self) (fi:FI) (ro:Option Nat) (c:Code):∀ T H D,gb P self fi ro c T H D=aA P self fi ro c T H D:=by
 induction c with
 |skip=>intro T H D;rfl
 |region id ops d=>
  intro T H D;cases d with
  |false=>exact Na P self fi ro ops ops.toList T.reset H D
  |true=>exact IP P self fi ops T.reset H D
 |seq a b iha ihb=>
  intro T H D
  show Xc (gb P self fi ro b) (gb P self fi ro a T H D)=_
  rw [Se,iha]
  conv=>rhs;unfold aA
  cases aA P self fi ro a T H D with
  |none=>rfl
  |some p=>
   obtain ⟨x,T,H,D⟩:=p;cases x with
   |normal=>exact ihb T H D
   |_=>rfl
 |cond c a b iha ihb=>
  intro T H D
  show Yz (gb P self fi ro a) (gb P self fi ro b) T H D (Hu fi T c)=_
  rw [kF];unfold Yz
  conv=>rhs;unfold aA
  cases dy fi T c with
  |bool x=>cases x with
   |true=>exact iha T H D
   |false=>exact ihb T H D
  |_=>rfl
 |block id c ih=>
  intro T H D
  show PH id (gb P self fi ro c T H D)=_
  rw [Sn,ih]
  conv=>rhs;unfold aA
  rfl
 |loop c ih=>
  intro T H D
  show Xc (self.code fi ro (.loop c)) (gb P self fi ro c T H D)=_
  rw [Se,ih]
  conv=>rhs;unfold aA
  rfl
 |rangeFunc f ps dW body _ _=>intro T H D;rfl
 |exit id=>intro T H D;rfl
 |scope c ih=>intro T H D;exact ih T H D
 |label l=>intro T H D;rfl
 |goto l=>intro T H D;rfl
 |ret=>intro T H D;rfl
 |refuse s=>intro T H D;rfl
noncomputable def Pv (P:Program) (hint:Hint) (self:Self) (fi:FI) (fn:Func) (x:X) (p:En×IH×List Deferred):Option (End×IH):=
 @X.rec (fun _=>Option (End×IH)) (b8 P hint self fi fn p.1 p.2.2 .returning p.2.1) (fun _=>none) (b8 P hint self fi fn p.1 p.2.2 .returning p.2.1) (fun v=>b8 P hint self fi fn p.1 p.2.2 (.panicking v false) p.2.1) x
noncomputable def Ri (P:Program) (hint:Hint) (self:Self) (fi:FI) (fn:Func) (r:eW):Option (End×IH):=
 @Option.rec (X×En×IH×List Deferred) (fun _=>Option (End×IH)) none (fun p=>Pv P hint self fi fn p.1 p.2) r
noncomputable def UY (P:Program) (hint:Hint) (self:Self) (f:FuncId) (args:List Value) (H:IH) (fn:Func) (c:Code):Option (End×IH):=
 @Bool.rec (fun _=>Option (End×IH)) none (Ri P hint self (cO hint f fn) fn (gb P self (cO hint f fn) none c (ez args) H [])) (fits fn args)
noncomputable def BA (P:Program) (hint:Hint) (self:Self) (f:FuncId) (args:List Value) (H:IH):Option (End×IH):=
 @Option.rec Func (fun _=>Option (End×IH)) none (fun fn=>@Option.rec Code (fun _=>Option (End×IH)) none (UY P hint self f args H fn) fn.body) P.funcs[f]?
theorem HR (P:Program) (hint:Hint) (self:Self) (f:FuncId) (args:List Value) (H:IH):BA P hint self f args H=b7 P hint self f args H:=by
 unfold BA b7;cases P.funcs[f]? with
 |none=>rfl
 |some fn=>
  simp only;cases fn.body with
  |none=>rfl
  |some c=>
   simp only [UY,kh,xW];split
   ·unfold Ri Pv
    cases aA P self (cO hint f fn) none c (ez args) H [] with
    |none=>rfl
    |some p=>obtain ⟨x,T,H,D⟩:=p;cases x<;>rfl
   ·rfl
noncomputable def qV (P:Program) (hint:Hint) (spec:Spec) (self:Self) (f:FuncId) (args:List Value) (H:IH):Option (End×IH):=
 @Option.rec (End×IH) (fun _=>Option (End×IH)) (BA P hint self f args H) some (spec f args H)
theorem FG (P:Program) (hint:Hint) (spec:Spec) (self:Self) (f:FuncId) (args:List Value) (H:IH):qV P hint spec self f args H=dm P hint spec self f args H:=by
 unfold qV dm;cases spec f args H with
 |none=>exact HR P hint self f args H
 |some r=>rfl
noncomputable def Xb (P:Program) (hint:Hint) (spec:Spec) (n:Nat):Self:=
 @Nat.rec (fun _=>Self) ⟨fun _ _ _ _ _ _=>none,fun _ _ _=>none⟩ (fun _ s=>⟨gb P s,qV P hint spec s⟩) n
theorem VC (P:Program) (hint:Hint) (spec:Spec):∀ n,Xb P hint spec n=ev P hint spec n:=by
 intro n
 induction n with
 |zero=>rfl
 |succ n ih=>
  show Self.mk (gb P (Xb P hint spec n)) (qV P hint spec (Xb P hint spec n))=⟨aA P (ev P hint spec n),dm P hint spec (ev P hint spec n)⟩
  rw [ih]
  congr 1
  ·funext fi ro c T H D;exact xW P _ fi ro c T H D
  ·funext f args H;exact FG P hint spec _ f args H
end Go.Iv
