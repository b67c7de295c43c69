/- The same evaluator in a form that the kernel runs fast: each choice by the type's own recursor, each branch a small closed piece. -/
import Derived.Test.YteknbnkjelmfaaaGreatDoorIvFastA
set_option linter.unusedSimpArgs false
set_option linter.unusedVariables false
namespace Go.Iv
open Go
noncomputable def Vj (H:IH) (r:Option (List Value)):Option ag:=@Option.rec (List Value) (fun _=>Option ag) none (fun l=>some (.val (.agg ⟨l⟩) H)) r
noncomputable def Ps (P:Program) (H:IH) (t:TypeId) (ps:List (Nat×Value)) (z:Value):Option ag:=
 match P.underlying t with
 |some (.struct fs)=>match placesOf P fs.toList with
  |some places=>Vj H (ml (fun i=>places[i]?) z.cells.size ps z.cells.toList)
  |none=>none
 |some (.array _ e)=>match P.info? e with
  |some i=>Vj H (ml (fun j=>some (j*i.size,i.size)) z.cells.size ps z.cells.toList)
  |none=>none
 |_=>none
noncomputable def xm (P:Program) (H:IH) (t:TypeId) (ps:List (Nat×Value)):Option ag:=
 @Bool.rec (fun _=>Option ag) none (@Option.rec Value (fun _=>Option ag) none (Ps P H t ps) (zeroOf P t)) (ps.all fun p=>NN p.2)
theorem Hd (P:Program) (H:IH) (t:TypeId) (ps:List (Nat×Value)):xm P H t ps=gU P H t ps:=by
 have agg:∀ (pl:Nat->Option (Nat×Nat)) (cs:Array Value),Vj H (ml pl cs.size ps cs.toList)=(match Instr.fill pl cs ps with |some cells=>some (.val (.agg cells) H) |none=>none):=by
  intro pl cs;rw [fill_eq];cases ml pl cs.size ps cs.toList<;>rfl
 unfold xm gU;cases ps.all fun p=>NN p.2 with
 |false=>rfl
 |true=>
  simp only [if_true];cases zeroOf P t with
  |none=>rfl
  |some z=>
   simp only [Ps];cases P.underlying t with
   |none=>rfl
   |some d=>
    cases d with
    |struct fs=>
     simp only;cases placesOf P fs.toList with
     |none=>rfl
     |some places=>simp only;rw [agg];rfl
    |array n e=>
     simp only;cases P.info? e with
     |none=>rfl
     |some i=>simp only;rw [agg];rfl
    |_=>rfl
noncomputable def WH (H:IH) (e:TypeId) (len:Nat) (r:Option (List Value)):Option ag:=@Option.rec (List Value) (fun _=>Option ag) none (fun l=>some (.val (.slice (some ⟨H.n,0,none⟩) len len) (bJ H e l))) r
noncomputable def jq (P:Program) (H:IH) (t:TypeId) (len:Nat) (ps:List (Nat×Value)):Option ag:=
 match cK P t with
 |some (e,i)=>
  if len*(i.size+1)<=2^24 &&ps.all (fun p=>NN p.2) then
   match zeroOf P e with
   |some z=>
    if z.cells.size=i.size then WH H e len (ml (fun j=>some (j*i.size,i.size)) (dY z.cells.toList len).length ps (dY z.cells.toList len)) else none
   |none=>none
  else none
 |none=>none
theorem su (P:Program) (H:IH) (t:TypeId) (len:Nat) (ps:List (Nat×Value)):jq P H t len ps=bg P H t len ps:=by
 have cy:∀ (pl:Nat->Option (Nat×Nat)) (e:TypeId) (cs:List Value),WH H e len (ml pl cs.length ps cs)=(match Instr.fill pl ⟨cs⟩ ps with |some cells=>some (ag.val (.slice (some ⟨H.n,0,none⟩) len len) (bJ H e cells.toList)) |none=>none):=by
  intro pl e cs;rw [fill_eq]
  show _=(match (ml pl cs.length ps cs).map fun l=>(⟨l⟩:Array Value) with |some cells=>some (ag.val (.slice (some ⟨H.n,0,none⟩) len len) (bJ H e cells.toList)) |none=>none)
  cases ml pl cs.length ps cs<;>rfl
 unfold jq bg;cases cK P t with
 |none=>rfl
 |some ei=>
  obtain ⟨e,i⟩:=ei;simp only;split
  ·cases zeroOf P e with
   |none=>rfl
   |some z=>
    simp only;split
    ·exact cy _ _ _
    ·rfl
  ·rfl
noncomputable def I5 (n off:Nat) (o:Option bw):Option (List Value):=
 match o with
 |some (.cells cs _ _ _ _)=>Qx n (Ru off cs)
 |_=>none
theorem MF (H:IH) (b off n:Nat) (hn:n≠0):I5 n off (H.get b)=H.bx b off n:=by
 unfold I5 IH.bx;cases H.get b with
 |none=>rfl
 |some o=>
  cases o with
  |cells cs e fz ex sh=>
   simp only;rw [Pe,Rm];by_cases h:off+n<=cs.length
   ·rw [if_pos (by simp;omega),if_pos h]
   ·rw [if_neg (by simp;omega),if_neg h]
  |_=>rfl
noncomputable def TP (off:Nat) (o:Option bw):Option Value:=
 match o with
 |some (.cells cs _ _ _ _)=>Pz cs off
 |_=>none
noncomputable def Wi (r:Option (List Value)):Option Value:=@Option.rec (List Value) (fun _=>Option Value) none (fun l=>some (.agg ⟨l⟩)) r
noncomputable def Wt (P:Program) (H:IH) (t:TypeId) (b off:Nat):Option Value:=
 match fm P t with
 |some true=>match P.info? t with
  |some i=>@Bool.rec (fun _=>Option Value) (Wi (I5 i.size off (H.get b))) (jY P H t b off) (Nat.beq i.size 0)
  |none=>none
 |some false=>TP off (H.get b)
 |none=>none
theorem U1 (P:Program) (H:IH) (t:TypeId) (b off:Nat):Wt P H t b off=jY P H t b off:=by
 unfold Wt jY;cases fm P t with
 |none=>rfl
 |some x=>
  cases x with
  |true=>
   simp only;cases P.info? t with
   |none=>rfl
   |some i=>
    simp only;cases hz:Nat.beq i.size 0 with
    |true=>rfl
    |false=>
     simp only;rw [MF H b off i.size (Nat.ne_of_beq_eq_false hz)];unfold Wi;cases H.bx b off i.size<;>rfl
  |false=>
   simp only;unfold TP;cases H.get b with
   |none=>rfl
   |some o=>
    cases o with
    |cells cs e fz ex sh=>exact Cj cs off
    |_=>rfl
noncomputable def Ut (H:IH) (b:Nat) (e:TypeId) (fz:Nat) (ex sh:Bool) (r:Option (List Value)):Option IH:=@Option.rec (List Value) (fun _=>Option IH) none (fun cs=>some (H.put b (.cells cs e fz ex sh))) r
noncomputable def WU (H:IH) (b off:Nat) (v:Value):Option IH:=
 match H.get b with
 |some (.cells cs e fz ex sh)=>@Bool.rec (fun _=>Option IH) none (Ut H b e fz ex sh (U4 off v cs)) (QD (Nat.ble dA b) (QD (Nat.ble fz off) (one v)))
 |_=>none
theorem oK (a b:Nat):Nat.ble a b=decide (a<=b):=by
 cases h:Nat.ble a b with
 |true=>exact (decide_eq_true (Nat.le_of_ble_eq_true h)).symm
 |false=>exact (decide_eq_false fun x=>by rw [Nat.ble_eq_true_of_le x] at h;cases h).symm
theorem Vw (H:IH) (b off:Nat) (v:Value):WU H b off v=H.dJ b off [v]:=by
 unfold WU IH.dJ;simp only [List.isEmpty_cons,Bool.false_eq_true,if_false];cases H.get b with
 |none=>rfl
 |some o=>
  cases o with
  |cells cs e fz ex sh=>
   simp only [JQ,oK,R3,Ut,List.length_singleton,List.all_cons,List.all_nil,Bool.and_true];by_cases h1:dA<=b<;>by_cases h2:fz<=off<;>by_cases h3:off+1<=cs.length<;>cases one v<;>simp [h1,h2,h3]
  |_=>rfl
noncomputable def A6 (r:Option IH):Option ag:=@Option.rec IH (fun _=>Option ag) none (fun H=>some (.skip H)) r
noncomputable def Xs (P:Program) (H:IH) (t:TypeId) (v:Value) (b off:Nat):Option ag:=
 match fm P t with
 |some false=>match P.info? t,v with
  |some i,.agg cs=>A6 (if cs.size=i.size then H.dJ b off cs.toList else none)
  |some i,v=>@Bool.rec (fun _=>Option ag) none (A6 (WU H b off v)) (Nat.beq i.size 1)
  |none,_=>none
 |_=>A6 (iH P H t b off v)
theorem UR (P:Program) (H:IH) (t:TypeId) (v:Value) (b off:Nat):Xs P H t v b off=(match iH P H t b off v with |some H=>some (.skip H) |none=>none):=by
 have sk:∀ r:Option IH,A6 r=(match r with |some H=>some (.skip H) |none=>none):=fun r=>by cases r<;>rfl
 have one_:∀ (i:TypeInfo) (v:Value),P.info? t=some i->v.cells=#[v]->@Bool.rec (fun _=>Option ag) none (A6 (WU H b off v)) (Nat.beq i.size 1)=(match iH P H t b off v with |some H=>some (.skip H) |none=>none):=by
  intro i v hi hc;unfold iH;rw [hi];simp only [hc,Vw,sk];cases hz:Nat.beq i.size 1 with
  |true=>
   have:=Nat.eq_of_beq_eq_true hz;rw [if_pos (by simpa using this.symm)]
  |false=>
   have:=Nat.ne_of_beq_eq_false hz;rw [if_neg (by simpa using fun e:1=i.size=>this e.symm)]
 unfold Xs;cases fm P t with
 |none=>exact sk _
 |some x=>
  cases x with
  |true=>exact sk _
  |false=>
   simp only;cases hi:P.info? t with
   |none=>
    have:iH P H t b off v=none:=by unfold iH;rw [hi]
    rw [this]
   |some i=>
    cases v with
    |agg cs=>
     show A6 _=_
     rw [sk];unfold iH;rw [hi];rfl
    |_=>exact one_ i _ hi rfl
noncomputable def pj (P:Program) (H:IH) (t:TypeId) (a:Value):Option ag:=
 match a with
 | .pointer (some ⟨b,off,none⟩)=>@Option.rec Value (fun _=>Option ag) none (fun v=>some (.val v H)) (Wt P H t b off)
 |_=>none
theorem IC (P:Program) (H:IH) (t:TypeId) (a:Value):pj P H t a=dZ P H t a:=by
 unfold pj dZ;cases a with
 |pointer p=>
  cases p with
  |none=>rfl
  |some ad=>
   obtain ⟨b,off,sp⟩:=ad;cases sp with
   |none=>simp only;rw [U1];cases jY P H t b off<;>rfl
   |some _=>rfl
 |_=>rfl
noncomputable def zh (P:Program) (H:IH) (t:TypeId) (a v:Value):Option ag:=
 match a with
 | .pointer (some ⟨b,off,none⟩)=>Xs P H t v b off
 |_=>none
theorem Gn (P:Program) (H:IH) (t:TypeId) (a v:Value):zh P H t a v=cE P H t a v:=by
 unfold zh cE;cases a with
 |pointer p=>
  cases p with
  |none=>rfl
  |some ad=>
   obtain ⟨b,off,sp⟩:=ad;cases sp with
   |none=>exact UR P H t v b off
   |some _=>rfl
 |_=>rfl
noncomputable def Pq (i:Int) (n:Nat):Option Nat:=@Int.rec (fun _=>Option Nat) (fun a=>@Bool.rec (fun _=>Option Nat) none (some a) (Nat.ble (Nat.succ a) n)) (fun _=>none) i
theorem Sm (i:Int) (n:Nat):Pq i n=if 0<=i &&i<(n:Int) then some i.toNat else none:=by
 cases i with
 |ofNat a=>
  show @Bool.rec (fun _=>Option Nat) none (some a) (Nat.ble (Nat.succ a) n)=_
  rw [oK];by_cases h:a<n
  ·rw [decide_eq_true (show Nat.succ a<=n from h)];simp [h]
  ·rw [decide_eq_false (show ¬ Nat.succ a<=n from h)];simp [h]
 |negSucc a=>simp [Pq]
noncomputable def Rq (H:IH) (b off size:Nat) (r:Option Nat):Option ag:=@Option.rec Nat (fun _=>Option ag) none (fun i=>some (.val (.pointer (some ⟨b,Nat.add off (Nat.mul i size),none⟩)) H)) r
noncomputable def kK (P:Program) (H:IH) (t:TypeId) (x ix:Value):Option ag:=
 match P.underlying t,x,ix with
 |some (.array n e),.pointer (some ⟨b,off,none⟩),.int _ i=>match P.info? e with
  |some inf=>Rq H b off inf.size (Pq i n)
  |none=>none
 |some (.slice e),.slice (some ⟨b,off,none⟩) len _,.int _ i=>match P.info? e with
  |some inf=>Rq H b off inf.size (Pq i len)
  |none=>none
 |_,_,_=>none
theorem uE (P:Program) (H:IH) (t:TypeId) (x ix:Value):kK P H t x ix=bt P H t x ix:=by
 have pt:∀ (b off size n:Nat) (i:Int),Rq H b off size (Pq i n)=if 0<=i &&i<(n:Int) then some (.val (.pointer (some ⟨b,off+i.toNat*size,none⟩)) H) else none:=by
  intro b off size n i;rw [Sm];split<;>rfl
 unfold kK bt;simp only [pt];rfl
section ops
variable (P:Program) (self:Self)
noncomputable def zj (_:Operand->Value) (_:IH):Option ag:=none
noncomputable def TW (x:Operand) (Z:Operand->Value) (H:IH):Option ag:=some (.val (Z x) H)
noncomputable def Um (c a b:Operand) (Z:Operand->Value) (H:IH):Option ag:=lS H (Z c) (Z a) (Z b)
noncomputable def QP (e:TypeId) (_:Operand->Value) (H:IH):Option ag:=fu P H e
noncomputable def WI (e:TypeId) (x:Operand) (Z:Operand->Value) (H:IH):Option ag:=nq H e (Z x)
noncomputable def PT (t:TypeId) (parts:Array (Nat×Operand)) (Z:Operand->Value) (H:IH):Option ag:=xm P H t (parts.toList.map fun p=>(p.1,Z p.2))
noncomputable def tL (t:TypeId) (len:Nat) (parts:Array (Nat×Operand)) (Z:Operand->Value) (H:IH):Option ag:=jq P H t len (parts.toList.map fun p=>(p.1,Z p.2))
noncomputable def vy (t:TypeId) (m k v:Operand) (Z:Operand->Value) (H:IH):Option ag:=ey P H t (Z m) (Z k) (Z v)
noncomputable def Wr (t:TypeId) (a:Operand) (Z:Operand->Value) (H:IH):Option ag:=pj P H t (Z a)
noncomputable def Rp (t:TypeId) (a v:Operand) (Z:Operand->Value) (H:IH):Option ag:=zh P H t (Z a) (Z v)
noncomputable def WE (x:Operand) (Z:Operand->Value) (H:IH):Option ag:=dS H (Z x)
noncomputable def b2 (f:IntKind->Int->Int->Value) (alt:Option ag) (H:IH) (a b:Value):Option ag:=
 match a,b with
 | .int k n,.int k' m=>if k=k' then some (.val (f k n m) H) else none
 |_,_=>alt
noncomputable def Cp (op:BinOp) (t:TypeId) (x y:Operand) (a b:Value) (H:IH):Option ag:=aD P H op t x y a b
noncomputable def XC (t:TypeId) (x y:Operand) (a b:Value) (H:IH):Option ag:=b2 (fun k n m=> .int k (Et k (U5 n m))) (aD P H .add t x y a b) H a b
noncomputable def Xc (t:TypeId) (x y:Operand) (a b:Value) (H:IH):Option ag:=b2 (fun k n m=> .int k (Et k (n - m))) (aD P H .sub t x y a b) H a b
noncomputable def XD (t:TypeId) (x y:Operand) (a b:Value) (H:IH):Option ag:=b2 (fun _ n m=> .bool (aX n m)) (aD P H .lss t x y a b) H a b
noncomputable def Xj (t:TypeId) (x y:Operand) (a b:Value) (H:IH):Option ag:=b2 (fun _ n m=> .bool (au n m)) (aD P H .leq t x y a b) H a b
noncomputable def XM (t:TypeId) (x y:Operand) (a b:Value) (H:IH):Option ag:=b2 (fun _ n m=> .bool (aX m n)) (aD P H .gtr t x y a b) H a b
noncomputable def Xz (t:TypeId) (x y:Operand) (a b:Value) (H:IH):Option ag:=b2 (fun _ n m=> .bool (au m n)) (aD P H .geq t x y a b) H a b
noncomputable def W7 (t:TypeId) (x y:Operand) (a b:Value) (H:IH):Option ag:=b2 (fun _ n m=> .bool (n==m)) (aD P H .eql t x y a b) H a b
noncomputable def XW (t:TypeId) (x y:Operand) (a b:Value) (H:IH):Option ag:=b2 (fun _ n m=> .bool (n !=m)) (aD P H .neq t x y a b) H a b
noncomputable def Pc (op:BinOp) (t:TypeId) (x y:Operand) (_:TypeId) (Z:Operand->Value) (H:IH):Option ag:=
 @BinOp.rec (fun _=>TypeId->Operand->Operand->Value->Value->IH->Option ag) (XC P) (Xc P) (Cp P .mul) (Cp P .quo) (Cp P .rem) (Cp P .and) (Cp P .or) (Cp P .xor) (Cp P .shl) (Cp P .shr) (Cp P .andNot)
  (W7 P) (XW P) (XD P) (Xj P) (XM P) (Xz P) op t x y (Z x) (Z y) H
theorem Se (op:BinOp) (t:TypeId) (x y:Operand) (yt:TypeId) (Z:Operand->Value) (H:IH):Pc P op t x y yt Z H=aD P H op t x y (Z x) (Z y):=by
 have key:∀ (f:IntKind->Int->Int->Value) (op:BinOp),(∀ k n m,aD P H op t x y (.int k n) (.int k m)=some (.val (f k n m) H))->(∀ k k' n m,k≠k'->aD P H op t x y (.int k n) (.int k' m)=none)->
   ∀ a b,b2 f (aD P H op t x y a b) H a b=aD P H op t x y a b:=by
  intro f op h1 h2 a b;unfold b2;split
  ·split
   ·rename_i h;subst h;exact (h1 _ _ _).symm
   ·rename_i h;exact (h2 _ _ _ _ h).symm
  ·rfl
 unfold Pc;cases op
 case add=>exact key _ _ (fun k n m=>by simp only [aD,if_true,Fu,Sy]) (fun k k' n m h=>by simp only [aD,if_neg h]) _ _
 case sub=>exact key _ _ (fun k n m=>by simp only [aD,if_true,Fu]) (fun k k' n m h=>by simp only [aD,if_neg h]) _ _
 case lss=>exact key _ _ (fun k n m=>by simp only [aD,if_true]) (fun k k' n m h=>by simp only [aD,if_neg h]) _ _
 case leq=>exact key _ _ (fun k n m=>by simp only [aD,if_true]) (fun k k' n m h=>by simp only [aD,if_neg h]) _ _
 case gtr=>exact key _ _ (fun k n m=>by simp only [aD,if_true]) (fun k k' n m h=>by simp only [aD,if_neg h]) _ _
 case geq=>exact key _ _ (fun k n m=>by simp only [aD,if_true]) (fun k k' n m h=>by simp only [aD,if_neg h]) _ _
 case eql=>exact key _ _ (fun k n m=>by simp [aD,bR]) (fun k k' n m h=>by simp [aD,bR,h]) _ _
 case neq=>exact key _ _ (fun k n m=>by simp [aD,bR]) (fun k k' n m h=>by simp [aD,bR,h]) _ _
 all_goals rfl
noncomputable def Yd (op:UnOp) (_:TypeId) (x:Operand) (Z:Operand->Value) (H:IH):Option ag:=GF P H op (Z x)
noncomputable def Uo (s d:TypeId) (x:Operand) (Z:Operand->Value) (H:IH):Option ag:=bb P H s d (Z x)
noncomputable def WN (t:TypeId) (x:Operand) (Z:Operand->Value) (H:IH):Option ag:=eT P H t (Z x)
noncomputable def WB (fn:Fn) (a c:Array Operand) (Z:Operand->Value) (H:IH):Option ag:=if fp fn then some (.val (.func fn ⟨a.toList.map Z⟩ ⟨c.toList.map Z⟩) H) else none
noncomputable def Wh (t:TypeId) (r:Option Operand) (Z:Operand->Value) (H:IH):Option ag:=bS P H t (r.map Z)
noncomputable def WM (t:TypeId) (l c:Operand) (Z:Operand->Value) (H:IH):Option ag:=bz P H t (Z l) (Z c)
noncomputable def Q0 (t:TypeId) (x:Operand) (lo hi mx:Option Operand) (Z:Operand->Value) (H:IH):Option ag:=cI P H t (Z x) (lo.map Z) (hi.map Z) (mx.map Z)
noncomputable def Ya (s:TypeId) (x:Operand) (f:Nat) (Z:Operand->Value) (H:IH):Option ag:=cg P H s (Z x) f
noncomputable def X1 (s:TypeId) (x:Operand) (f:Nat) (Z:Operand->Value) (H:IH):Option ag:=iY P H s (Z x) f
noncomputable def X4 (t:TypeId) (x i:Operand) (Z:Operand->Value) (H:IH):Option ag:=kK P H t (Z x) (Z i)
noncomputable def X3 (t:TypeId) (x i:Operand) (Z:Operand->Value) (H:IH):Option ag:=gR P H t (Z x) (Z i)
noncomputable def X5 (t:TypeId) (x k:Operand) (ok:Bool) (Z:Operand->Value) (H:IH):Option ag:=cA P H t (Z x) (Z k) ok
noncomputable def N7 (t:TypeId) (x:Operand) (Z:Operand->Value) (H:IH):Option ag:=mR P H t (Z x)
noncomputable def TU (x:Operand) (s:Bool) (Z:Operand->Value) (H:IH):Option ag:=@Bool.rec (fun _=>Option ag) none (lH H (Z x)) s
noncomputable def Ye (x:Operand) (_ asserted:TypeId) (ok:Bool) (Z:Operand->Value) (H:IH):Option ag:=eh P H (Z x) asserted ok
noncomputable def X2 (x:Operand) (i:Nat) (Z:Operand->Value) (H:IH):Option ag:=eW H (Z x) i
noncomputable def Rj (x:Operand) (Z:Operand->Value) (H:IH):Option ag:=vk H (Z x)
noncomputable def O5 (c:Call) (Z:Operand->Value) (H:IH):Option ag:=
 match c.callee with
 | .value f=>mT H (Z f) (c.args.toList.map Z)
 |_=>none
noncomputable def Kh (args:List Value) (H:IH) (fv:Value):Option ag:=
 match fv with
 | .func (.yield l) _ _=>match fA self l args H with
  |some (v,H)=>some (.val v H)
  |none=>none
 |fv=>rz (iN P self H fv args)
noncomputable def Yj (args:Array Operand) (argTypes:Array TypeId) (ty:TypeId) (Z:Operand->Value) (H:IH) (b:Builtin):Option ag:=bc P H b argTypes ty (args.toList.map Z)
noncomputable def XT (args:Array Operand) (Z:Operand->Value) (H:IH) (f:Operand):Option ag:=Kh P self (args.toList.map Z) H (Z f)
noncomputable def We (ty:TypeId) (c:Call) (Z:Operand->Value) (H:IH):Option ag:=
 @Callee.rec (fun _=>Option ag) (XT P self c.args Z H) (fun _ _=>none) (Yj P c.args c.argTypes ty Z H) c.callee
noncomputable def As (Z:Operand->Value) (H:IH) (o:Oper):Option ag:=
 @Op.rec (fun _=>(Operand->Value)->IH->Option ag)
  TW TW Um (QP P) WI (PT P) (tL P) (vy P) (Wr P) (Rp P) (fun _=>zj) (fun _=>zj) WE (Pc P) (Yd P) (Uo P) (fun _ _=>zj) (WN P) WB (Wh P) (fun _ _=>zj) (WM P) (Q0 P) (Ya P) (X1 P) (X4 P) (X3 P) (X5 P)
  (vy P) (fun _ _ _=>zj) (fun _ _ _ _=>zj) (N7 P) TU (fun _=>zj) (Ye P) X2 (We P self o.type) (fun _=>zj) O5 Rj (fun _ _=>zj) (fun _ _ _=>zj) (fun _ _=>zj) o.op Z H
theorem ka (Z:Operand->Value) (H:IH) (o:Oper):As P self Z H o=aP P self Z H o:=by
 obtain ⟨dst,op,type,pos,after,guard⟩:=o;cases op
 case binOp op t x y yt=>exact Se P op t x y yt Z H
 case next x s=>cases s<;>rfl
 case build t ps=>exact Hd P H t _
 case buildSlice t n ps=>exact su P H t n _
 case load t a=>exact IC P H t _
 case store t a v=>exact Gn P H t _ _
 case indexAddr t x i=>exact uE P H t _ _
 case call c=>
  obtain ⟨callee,args,ats⟩:=c;cases callee with
  |value f=>
   show Kh P self (args.toList.map Z) H (Z f)=cZ P self Z H ⟨.value f,args,ats⟩ type
   unfold Kh cZ;rfl
  |invoke r n=>rfl
  |builtin b=>rfl
 all_goals rfl
end ops
noncomputable def Wc (want:Bool) (v:Value):Option Bool:=
 match v with
 | .bool b=>some (b==want)
 | .chan _=>none
 |_=>some false
noncomputable def O8 (fi:FI) (ops:Array Oper) (E:En) (g:Nat×Bool):Option Bool:=
 @Option.rec Nat (fun _=>Option Bool) (some false) (fun d=>Wc g.2 (SF fi E d)) ((ops[g.1]?).bind (·.dst))
theorem Qb (fi:FI) (ops:Array Oper) (E:En) (o:Oper) (g:Nat×Bool) (h:o.guard=some g):O8 fi ops E g=bC fi ops E o:=by
 obtain ⟨j,b⟩:=g;unfold O8 bC;rw [h];simp only;cases (ops[j]?).bind (·.dst) with
 |none=>rfl
 |some d=>simp only [Kw];rfl
noncomputable def gF {R:Type} (no:R) (fi:FI) (ops:Array Oper) (E:En) (o:Oper) (a b:R):R:=
 @Option.rec (Nat×Bool) (fun _=>R) a (fun g=>@Option.rec Bool (fun _=>R) no (fun w=>@Bool.rec (fun _=>R) b a w) (O8 fi ops E g)) o.guard
theorem Ua {R:Type} (no:R) (fi:FI) (ops:Array Oper) (E:En) (o:Oper) (a b:R):gF no fi ops E o a b=(match bC fi ops E o with |some true=>a |some false=>b |none=>no):=by
 unfold gF;cases hg:o.guard with
 |none=>simp only [bC,hg]
 |some g=>
  simp only [Qb fi ops E o g hg];cases bC fi ops E o with
  |none=>rfl
  |some w=>cases w<;>rfl
abbrev Nx:=AL->AL->IH->List Deferred->eR
noncomputable def eX (fi:FI) (loc tmp:AL) (t:Nat):Value:=@RJ.rec (fun _=>Value) aS (VP loc t) (VP tmp t) (Jw fi t)
noncomputable def bZ (fi:FI) (loc tmp:AL) (x:Operand):Value:=@Operand.rec (fun _=>Value) (eX fi loc tmp) Tq Ss V9 x
theorem SH (fi:FI) (loc tmp:AL):bZ fi loc tmp=dF fi ⟨loc,tmp⟩:=kD fi ⟨loc,tmp⟩
noncomputable def Xw (fi:FI) (next:Nx) (loc tmp:AL) (H:IH) (D:List Deferred) (v:Value) (d:Nat):eR:=
 @RJ.rec (fun _=>eR) (next loc tmp H D) (next (P5 loc d v) tmp H D) (next loc (.c d v tmp) H D) (Jw fi d)
noncomputable def uY (fi:FI) (dst:Option Tmp) (next:Nx) (loc tmp:AL) (H:IH) (D:List Deferred) (v:Value):eR:=
 @Option.rec Nat (fun _=>eR) (next loc tmp H D) (Xw fi next loc tmp H D v) dst
theorem KE (fi:FI) (dst:Option Tmp) (N:En->IH->List Deferred->eR) (loc tmp:AL) (H:IH) (D:List Deferred) (v:Value):
  uY fi dst (fun l t=>N ⟨l,t⟩) loc tmp H D v=N (cR fi ⟨loc,tmp⟩ dst v) H D:=by
 cases dst with
 |none=>rfl
 |some d=>
  show @RJ.rec (fun _=>eR) (N ⟨loc,tmp⟩ H D) (N ⟨P5 loc d v,tmp⟩ H D) (N ⟨loc,.c d v tmp⟩ H D) (Jw fi d)=N (mZ fi d v ⟨loc,tmp⟩) H D
  unfold mZ;rw [KM,DC];cases cls fi d<;>rfl
noncomputable def kG (fi:FI) (ro:Option Nat) (dst:Option Tmp) (next:Nx) (loc tmp:AL) (D:List Deferred) (r:Option ag):eR:=
 @Option.rec ag (fun _=>eR) none (fun r=>@ag.rec (fun _=>eR) (fun v H=>uY fi dst next loc tmp H D v) (fun H=>uY fi dst next loc tmp H D undef)
  (fun d H=>if ro.isNone then uY fi dst next loc tmp H (d::D) undef else none) (fun v H=>some (.panic v,⟨loc,tmp⟩,H,D)) r) r
noncomputable def kV (fi:FI) (_ro:Option Nat) (dst:Option Tmp) (next:Nx) (loc tmp:AL) (H:IH) (D:List Deferred) (r:Option Value):eR:=
 @Option.rec Value (fun _=>eR) none (uY fi dst next loc tmp H D) r
section step
variable (P:Program) (self:Self)
noncomputable def Ul (x:Operand) (fi:FI) (_ro:Option Nat) (dst:Option Tmp) (next:Nx) (loc tmp:AL) (H:IH) (D:List Deferred):eR:=uY fi dst next loc tmp H D (bZ fi loc tmp x)
noncomputable def dB (h:(Operand->Value)->IH->Option ag) (fi:FI) (ro:Option Nat) (dst:Option Tmp) (next:Nx) (loc tmp:AL) (H:IH) (D:List Deferred):eR:=kG fi ro dst next loc tmp D (h (bZ fi loc tmp) H)
noncomputable def s2 (fi:FI) (ro:Option Nat) (dst:Option Tmp) (next:Nx) (loc tmp:AL) (H:IH) (D:List Deferred) (f:IntKind->Int->Int->Value) (alt:Option ag) (a b:Value):eR:=
 match a,b with
 | .int k n,.int k' m=>if k=k' then uY fi dst next loc tmp H D (f k n m) else none
 |_,_=>kG fi ro dst next loc tmp D alt
abbrev zA:=TypeId->Operand->Operand->FI->Option Nat->Option Tmp->Nx->AL->AL->IH->List Deferred->Value->Value->eR
noncomputable def DF (op:BinOp):zA:=fun t x y fi ro dst next loc tmp H D a b=>kG fi ro dst next loc tmp D (aD P H op t x y a b)
noncomputable def W4:zA:=fun t x y fi ro dst next loc tmp H D a b=>s2 fi ro dst next loc tmp H D (fun k n m=> .int k (Et k (U5 n m))) (aD P H .add t x y a b) a b
noncomputable def XY:zA:=fun t x y fi ro dst next loc tmp H D a b=>s2 fi ro dst next loc tmp H D (fun k n m=> .int k (Et k (n - m))) (aD P H .sub t x y a b) a b
noncomputable def W0:zA:=fun t x y fi ro dst next loc tmp H D a b=>s2 fi ro dst next loc tmp H D (fun _ n m=> .bool (aX n m)) (aD P H .lss t x y a b) a b
noncomputable def XL:zA:=fun t x y fi ro dst next loc tmp H D a b=>s2 fi ro dst next loc tmp H D (fun _ n m=> .bool (au n m)) (aD P H .leq t x y a b) a b
noncomputable def XN:zA:=fun t x y fi ro dst next loc tmp H D a b=>s2 fi ro dst next loc tmp H D (fun _ n m=> .bool (aX m n)) (aD P H .gtr t x y a b) a b
noncomputable def W2:zA:=fun t x y fi ro dst next loc tmp H D a b=>s2 fi ro dst next loc tmp H D (fun _ n m=> .bool (au m n)) (aD P H .geq t x y a b) a b
noncomputable def Xv:zA:=fun t x y fi ro dst next loc tmp H D a b=>s2 fi ro dst next loc tmp H D (fun _ n m=> .bool (n==m)) (aD P H .eql t x y a b) a b
noncomputable def Xh:zA:=fun t x y fi ro dst next loc tmp H D a b=>s2 fi ro dst next loc tmp H D (fun _ n m=> .bool (n !=m)) (aD P H .neq t x y a b) a b
noncomputable def U9 (op:BinOp) (t:TypeId) (x y:Operand) (_:TypeId) (fi:FI) (ro:Option Nat) (dst:Option Tmp) (next:Nx) (loc tmp:AL) (H:IH) (D:List Deferred):eR:=
 @BinOp.rec (fun _=>zA) (W4 P) (XY P) (DF P .mul) (DF P .quo) (DF P .rem) (DF P .and) (DF P .or) (DF P .xor) (DF P .shl) (DF P .shr) (DF P .andNot)
  (Xv P) (Xh P) (W0 P) (XL P) (XN P) (W2 P) op t x y fi ro dst next loc tmp H D (bZ fi loc tmp x) (bZ fi loc tmp y)
noncomputable def P1 (t:TypeId) (a:Operand) (fi:FI) (ro:Option Nat) (dst:Option Tmp) (next:Nx) (loc tmp:AL) (H:IH) (D:List Deferred):eR:=
 match bZ fi loc tmp a with
 | .pointer (some ⟨b,off,none⟩)=>kV fi ro dst next loc tmp H D (Wt P H t b off)
 |_=>none
noncomputable def Vh (t:TypeId) (H:IH) (x:Value):Option Value:=
 match P.underlying t,x with
 |some (.slice _),.slice _ n _=>some (.int .i64 (.ofNat n))
 |_,x=>eA P H t x
theorem R0 (t:TypeId) (H:IH) (x:Value):Vh P t H x=eA P H t x:=by
 unfold Vh;split
 ·rename_i e a n c hu
  unfold eA;rw [hu];rfl
 ·rfl
noncomputable def sLen (ats:Array TypeId) (fi:FI) (ro:Option Nat) (dst:Option Tmp) (next:Nx) (loc tmp:AL) (H:IH) (D:List Deferred) (x:Operand):eR:=
 @Option.rec Nat (fun _=>eR) none (fun t=>kV fi ro dst next loc tmp H D (Vh P t H (bZ fi loc tmp x))) ats[0]?
noncomputable def XS (args:Array Operand) (ats:Array TypeId) (ty:TypeId) (fi:FI) (ro:Option Nat) (dst:Option Tmp) (next:Nx) (loc tmp:AL) (H:IH) (D:List Deferred) (b:Builtin):eR:=
 match b,args.toList with
 | .len,[x]=>sLen P ats fi ro dst next loc tmp H D x
 |b,l=>kG fi ro dst next loc tmp D (bc P H b ats ty (l.map (bZ fi loc tmp)))
noncomputable def V6 (ty:TypeId) (c:Call) (fi:FI) (ro:Option Nat) (dst:Option Tmp) (next:Nx) (loc tmp:AL) (H:IH) (D:List Deferred):eR:=
 @Callee.rec (fun _=>eR) (fun f=>kG fi ro dst next loc tmp D (Kh P self (c.args.toList.map (bZ fi loc tmp)) H (bZ fi loc tmp f))) (fun _ _=>none) (XS P c.args c.argTypes ty fi ro dst next loc tmp H D) c.callee
noncomputable def stepG (o:Oper):FI->Option Nat->Option Tmp->Nx->AL->AL->IH->List Deferred->eR:=
 @Op.rec (fun _=>FI->Option Nat->Option Tmp->Nx->AL->AL->IH->List Deferred->eR)
  Ul Ul (fun c a b=>dB (Um c a b)) (fun e=>dB (QP P e)) (fun e x=>dB (WI e x)) (fun t ps=>dB (PT P t ps)) (fun t n ps=>dB (tL P t n ps)) (fun t m k v=>dB (vy P t m k v))
  (P1 P) (fun t a v=>dB (Rp P t a v)) (fun _=>dB zj) (fun _=>dB zj) (fun x=>dB (WE x)) (U9 P) (fun op t x=>dB (Yd P op t x)) (fun s d x=>dB (Uo P s d x)) (fun _ _=>dB zj) (fun t x=>dB (WN P t x))
  (fun fn a c=>dB (WB fn a c)) (fun t r=>dB (Wh P t r)) (fun _ _=>dB zj) (fun t l c=>dB (WM P t l c)) (fun t x l h m=>dB (Q0 P t x l h m)) (fun s x f=>dB (Ya P s x f)) (fun s x f=>dB (X1 P s x f)) (fun t x i=>dB (X4 P t x i)) (fun t x i=>dB (X3 P t x i))
  (fun t x k ok=>dB (X5 P t x k ok)) (fun t m k v=>dB (vy P t m k v)) (fun _ _ _=>dB zj) (fun _ _ _ _=>dB zj) (fun t x=>dB (N7 P t x)) (fun x s=>dB (TU x s)) (fun _=>dB zj) (fun x xt t ok=>dB (Ye P x xt t ok)) (fun x i=>dB (X2 x i))
  (V6 P self o.type) (fun _=>dB zj) (fun c=>dB (O5 c)) (fun x=>dB (Rj x)) (fun _ _=>dB zj) (fun _ _ _=>dB zj) (fun _ _=>dB zj) o.op
theorem Rv (o:Oper) (fi:FI) (ro:Option Nat) (dst:Option Tmp) (next:Nx) (loc tmp:AL) (H:IH) (D:List Deferred):stepG P self o fi ro dst next loc tmp H D=kG fi ro dst next loc tmp D (aP P self (dF fi ⟨loc,tmp⟩) H o):=by
 rw [←SH,←ka];obtain ⟨dst',op,type,pos,after,guard⟩:=o;cases op
 case load t a=>
  show P1 P t a fi ro dst next loc tmp H D=kG fi ro dst next loc tmp D (pj P H t (bZ fi loc tmp a))
  unfold P1 pj;cases bZ fi loc tmp a with
  |pointer p=>
   cases p with
   |none=>rfl
   |some ad=>
    obtain ⟨b,off,sp⟩:=ad;cases sp with
    |none=>
     simp only;cases Wt P H t b off<;>rfl
    |some _=>rfl
  |_=>rfl
 case binOp op t x y yt=>
  show U9 P op t x y yt fi ro dst next loc tmp H D=kG fi ro dst next loc tmp D (Pc P op t x y yt (bZ fi loc tmp) H)
  have key:∀ (f:IntKind->Int->Int->Value) (alt:Option ag) (a b:Value),s2 fi ro dst next loc tmp H D f alt a b=kG fi ro dst next loc tmp D (b2 f alt H a b):=by
   intro f alt a b;unfold s2 b2;split
   ·split<;>rfl
   ·rfl
  unfold U9 Pc;cases op<;>first |rfl |exact key _ _ _ _
 case call c=>
  obtain ⟨callee,args,ats⟩:=c;cases callee with
  |value f=>rfl
  |invoke r n=>rfl
  |builtin b=>
   show XS P args ats type fi ro dst next loc tmp H D b=kG fi ro dst next loc tmp D (bc P H b ats type (args.toList.map (bZ fi loc tmp)))
   unfold XS;split
   ·rename_i x hx
    rw [hx];unfold sLen;simp only [List.map_cons,List.map_nil,bc,R0];cases ats[0]? with
    |none=>rfl
    |some t=>
     simp only;cases eA P H t (bZ fi loc tmp x)<;>rfl
   ·rfl
 all_goals rfl
end step
noncomputable def fM (P:Program) (self:Self) (fi:FI) (ro:Option Nat) (ops:Array Oper) (l:List Oper):Nx:=
 @List.rec Oper (fun _=>Nx) (fun loc tmp H D=>some (.normal,⟨loc,tmp⟩,H,D))
  (fun o _ ih loc tmp H D=>@Option.rec (Nat×Bool) (fun _=>eR) (stepG P self o fi ro o.dst ih loc tmp H D)
   (fun _=>gF none fi ops ⟨loc,tmp⟩ o (stepG P self o fi ro o.dst ih loc tmp H D) (uY fi o.dst ih loc tmp H D undef)) o.guard) l
noncomputable def O0 (P:Program) (self:Self) (fi:FI) (ro:Option Nat) (ops:Array Oper) (l:List Oper) (E:En):IH->List Deferred->eR:=fM P self fi ro ops l E.loc E.tmp
theorem LU (P:Program) (self:Self) (fi:FI) (ro:Option Nat) (ops:Array Oper) (l:List Oper):∀ loc tmp H D,fM P self fi ro ops l loc tmp H D=dm P self fi ro ops l ⟨loc,tmp⟩ H D:=by
 induction l with
 |nil=>intro loc tmp H D;rfl
 |cons o l ih=>
  intro loc tmp H D;have hn:fM P self fi ro ops l=fun l1 t1=>(fun E=>dm P self fi ro ops l E) ⟨l1,t1⟩:=by
   funext l1 t1 H1 D1;exact ih l1 t1 H1 D1
  have hstep:stepG P self o fi ro o.dst (fM P self fi ro ops l) loc tmp H D=(match aP P self (dF fi ⟨loc,tmp⟩) H o with
    |some (.val v H)=>dm P self fi ro ops l (cR fi ⟨loc,tmp⟩ o.dst v) H D
    |some (.skip H)=>dm P self fi ro ops l (cR fi ⟨loc,tmp⟩ o.dst undef) H D
    |some (.defer d H)=>if ro.isNone then dm P self fi ro ops l (cR fi ⟨loc,tmp⟩ o.dst undef) H (d::D) else none
    |some (.panic v H)=>some (.panic v,⟨loc,tmp⟩,H,D)
    |none=>none):=by
   rw [Rv,hn];unfold kG;simp only [KE];cases aP P self (dF fi ⟨loc,tmp⟩) H o with
   |none=>rfl
   |some r=>cases r<;>rfl
  have hoff:uY fi o.dst (fM P self fi ro ops l) loc tmp H D undef=dm P self fi ro ops l (cR fi ⟨loc,tmp⟩ o.dst undef) H D:=by
   rw [hn,KE]
  show @Option.rec (Nat×Bool) (fun _=>eR) (stepG P self o fi ro o.dst (fM P self fi ro ops l) loc tmp H D)
   (fun _=>gF none fi ops ⟨loc,tmp⟩ o (stepG P self o fi ro o.dst (fM P self fi ro ops l) loc tmp H D) (uY fi o.dst (fM P self fi ro ops l) loc tmp H D undef)) o.guard=_
  have e:@Option.rec (Nat×Bool) (fun _=>eR) (stepG P self o fi ro o.dst (fM P self fi ro ops l) loc tmp H D)
   (fun _=>gF none fi ops ⟨loc,tmp⟩ o (stepG P self o fi ro o.dst (fM P self fi ro ops l) loc tmp H D) (uY fi o.dst (fM P self fi ro ops l) loc tmp H D undef)) o.guard=
    gF none fi ops ⟨loc,tmp⟩ o (stepG P self o fi ro o.dst (fM P self fi ro ops l) loc tmp H D) (uY fi o.dst (fM P self fi ro ops l) loc tmp H D undef):=by
   unfold gF;cases o.guard<;>rfl
  rw [e,Ua,hstep,hoff]
  conv=>rhs;unfold dm
  rfl
theorem LP (P:Program) (self:Self) (fi:FI) (ro:Option Nat) (ops:Array Oper) (l:List Oper) (E:En) (H:IH) (D:List Deferred):O0 P self fi ro ops l E H D=dm P self fi ro ops l E H D:=
 LU P self fi ro ops l E.loc E.tmp H D
noncomputable def Uk (P:Program) (self:Self) (fi:FI) (_n0 _i:Nat) (o:Oper) (_m:Nat) (s:DS):DR:=
 match As P self (Ef fi s.T) s.H o with
 |some (.val v _)=> .done { s with T:=xg fi s.T o.dst v }
 |_=> .fail
noncomputable def mF (P:Program) (self:Self) (fi:FI) (T:En) (H:IH) (o:Oper) (v:Value):Bool:=
 match As P self (Ef fi T) H o with
 |some (.val v' _)=>kX v v'
 |_=>false
theorem zg (P:Program) (self:Self) (fi:FI) (T:En) (H:IH) (o:Oper) (v:Value):mF P self fi T H o v=sameAt P self fi T H o v:=by
 unfold mF sameAt BY;rw [ka,kD];cases aP P self (dF fi T) H o with
 |none=>rfl
 |some r=>cases r<;>rfl
noncomputable def qC (P:Program) (self:Self) (fi:FI) (T:En) (o:Oper) (v:Value) (m:Nat) (l:List (Nat×IH)):Bool:=
 @List.rec (Nat×IH) (fun _=>Bool) true (fun p _ ih=>@Bool.rec (fun _=>Bool) (@Bool.rec (fun _=>Bool) false ih (mF P self fi T p.2 o v)) ih (Ij m p.1)) l
theorem Gw (P:Program) (self:Self) (fi:FI) (T:En) (o:Oper) (v:Value) (m:Nat) (l:List (Nat×IH)):qC P self fi T o v m l=fc P self fi T o v m l:=by
 induction l with
 |nil=>rfl
 |cons p l ih=>
  obtain ⟨c,Hc⟩:=p
  show @Bool.rec (fun _=>Bool) (@Bool.rec (fun _=>Bool) false (qC P self fi T o v m l) (mF P self fi T Hc o v)) (qC P self fi T o v m l) (Ij m c)=_
  rw [ih,zg,lX];simp only [fc];cases m.testBit c<;>cases sameAt P self fi T Hc o v<;>rfl
noncomputable def lG (P:Program) (self:Self) (fi:FI) (H:IH) (m:Nat) (l:List Rd):Bool:=
 @List.rec Rd (fun _=>Bool) true (fun r _ ih=>@Bool.rec (fun _=>Bool) (@Bool.rec (fun _=>Bool) false ih (mF P self fi r.T H r.o r.v)) ih (Ij m r.i)) l
theorem GI (P:Program) (self:Self) (fi:FI) (H:IH) (m:Nat) (l:List Rd):lG P self fi H m l=fQ P self fi H m l:=by
 induction l with
 |nil=>rfl
 |cons r l ih=>
  show @Bool.rec (fun _=>Bool) (@Bool.rec (fun _=>Bool) false (lG P self fi H m l) (mF P self fi r.T H r.o r.v)) (lG P self fi H m l) (Ij m r.i)=_
  rw [ih,zg,lX];simp only [fQ];cases m.testBit r.i<;>cases sameAt P self fi r.T H r.o r.v<;>rfl
noncomputable def wJ (m:Nat) (l:List (Nat×IH)):Bool:=@List.rec (Nat×IH) (fun _=>Bool) true (fun p _ ih=>@Bool.rec (fun _=>Bool) false ih (Ij m p.1)) l
theorem GQ (m:Nat) (l:List (Nat×IH)):wJ m l=chained m l:=by
 induction l with
 |nil=>rfl
 |cons p l ih=>
  obtain ⟨c,Hc⟩:=p
  show @Bool.rec (fun _=>Bool) false (wJ m l) (Ij m c)=_
  rw [ih,lX];simp only [chained];cases m.testBit c<;>rfl
noncomputable def WR (m:Nat) (l:List (Nat×bw)):List (Nat×bw):=@List.rec (Nat×bw) (fun _=>List (Nat×bw)) [] (fun p _ ih=>@Bool.rec (fun _=>List (Nat×bw)) ih (p::ih) (Ij m p.1)) l
theorem Vt (m:Nat) (l:List (Nat×bw)):WR m l=l.filter fun x=>m.testBit x.1:=by
 induction l with
 |nil=>rfl
 |cons p l ih=>
  show @Bool.rec (fun _=>List (Nat×bw)) (WR m l) (p::WR m l) (Ij m p.1)=_
  rw [ih,lX,List.filter_cons];cases m.testBit p.1<;>rfl
noncomputable def QE (m:Nat) (l:List (Nat×bw)):List (Nat×bw):=@List.rec (Nat×bw) (fun _=>List (Nat×bw)) [] (fun p _ ih=>@Bool.rec (fun _=>List (Nat×bw)) (p::ih) ih (Ij m p.1)) l
theorem Ty (m:Nat) (l:List (Nat×bw)):QE m l=l.filter fun x=> !m.testBit x.1:=by
 induction l with
 |nil=>rfl
 |cons p l ih=>
  show @Bool.rec (fun _=>List (Nat×bw)) (p::QE m l) (QE m l) (Ij m p.1)=_
  rw [ih,lX,List.filter_cons];cases m.testBit p.1<;>rfl
noncomputable def TZ (P:Program) (self:Self) (fi:FI) (_n0 i:Nat) (o:Oper) (m:Nat) (s:DS):DR:=
 match As P self (Ef fi s.T) s.H o with
 |some (.val v _)=>@Bool.rec (fun _=>DR) .fail (.done { s with T:=xg fi s.T o.dst v,reads:=⟨i,o,s.T,v⟩::s.reads }) (qC P self fi s.T o v m s.bG)
 |_=> .fail
noncomputable def PJ (P:Program) (self:Self) (fi:FI) (n0 i:Nat) (o:Oper) (_m:Nat) (s:DS):DR:=
 match As P self (Ef fi s.T) { s.H with n:=n0+i } o with
 |some (.val v H')=>match H'.get (n0+i) with
  |some ob=> .done { s with T:=xg fi s.T o.dst v,bp:=(i,ob)::s.bp }
  |none=> .fail
 |_=> .fail
noncomputable def Lk (P:Program) (self:Self) (fi:FI) (i:Nat) (dst:Option Tmp) (m:Nat) (s:DS) (r:Option ag):DR:=
 match r with
 |some (.val v H')=>@Bool.rec (fun _=>DR) .fail (.done { T:=xg fi s.T dst v,H:=H',bp:=QE m s.bp,bG:=(i,s.H)::s.bG,reads:=s.reads }) (lG P self fi H' m s.reads)
 |some (.skip H')=>@Bool.rec (fun _=>DR) .fail (.done { T:=xg fi s.T dst undef,H:=H',bp:=QE m s.bp,bG:=(i,s.H)::s.bG,reads:=s.reads }) (lG P self fi H' m s.reads)
 |some (.panic v H')=> .panic v H'
 |_=> .fail
noncomputable def N5 (P:Program) (self:Self) (fi:FI) (n0 i:Nat) (o:Oper) (m:Nat) (s:DS):DR:=
 @Bool.rec (fun _=>DR) .fail (Lk P self fi i o.dst m s (As P self (Ef fi s.T) (ay n0 (WR m s.bp) s.H) o)) (wJ m s.bG)
noncomputable def im (P:Program) (self:Self) (fi:FI) (ops:Array Oper) (n0 i:Nat) (o:Oper) (m:Nat) (s:DS):DR:=
 gF .fail fi ops s.T o (@Kind.rec (fun _=>Program->Self->FI->Nat->Nat->Oper->Nat->DS->DR) Uk TZ PJ N5 (kindOf P o) P self fi n0 i o m s) (.done { s with T:=xg fi s.T o.dst undef })
theorem ky {R:Type} (b:Bool) (x y:R):@Bool.rec (fun _=>R) y x b=if b=true then x else y:=by cases b<;>rfl
theorem qF (P:Program) (self:Self) (fi:FI) (ops:Array Oper) (n0 i:Nat) (o:Oper) (m:Nat) (s:DS):im P self fi ops n0 i o m s=dE P self fi ops n0 i o m s:=by
 unfold im dE;rw [Ua];split
 ·rename_i hw
  rw [hw];simp only;cases hk:kindOf P o with
  |pure=>
   simp only [Uk,ka,kD,l8];cases aP P self (dF fi s.T) s.H o with
   |none=>rfl
   |some r=>cases r<;>rfl
  |read=>
   simp only [TZ,ka,kD,l8,ky,Gw];cases aP P self (dF fi s.T) s.H o with
   |none=>rfl
   |some r=>cases r<;>rfl
  |fresh=>
   simp only [PJ,ka,kD,l8];cases aP P self (dF fi s.T) { s.H with n:=n0+i } o with
   |none=>rfl
   |some r=>cases r<;>rfl
  |chain=>
   simp only [N5,Lk,ka,kD,l8,ky,GI,Vt,Ty,GQ];cases chained m s.bG with
   |false=>rfl
   |true=>
    simp only [if_true];cases aP P self (dF fi s.T) (ay n0 (s.bp.filter fun x=>m.testBit x.1) s.H) o with
    |none=>rfl
    |some r=>cases r<;>rfl
 ·rename_i hw;rw [hw];simp only [l8]
 ·rename_i hw;rw [hw]
noncomputable def Om (next:Nat->List Nat->DS->Option (Nat×Value×IH)->DR) (i:Nat) (ms:List Nat) (s:DS) (r:DR):DR:=
 @DR.rec (fun _=>DR) (fun s'=>next (i+1) ms s' none) (fun v H=>next (i+1) ms { s with bG:=(i,s.H)::s.bG } (some (i,v,H))) .fail r
noncomputable def CI (next:Nat->List Nat->DS->Option (Nat×Value×IH)->DR) (i:Nat) (ms:List Nat) (px:Nat×Value×IH) (r:DR):DR:=
 match r with
 | .done s'=>next (i+1) ms s' (some px)
 |_=> .fail
noncomputable def XU (s:DS) (px:Option (Nat×Value×IH)):DR:=
 match px with
 |none=> .done s
 |some (_,v,H)=> .panic v H
noncomputable def iA (P:Program) (self:Self) (fi:FI) (ops:Array Oper) (n0:Nat) (l:List Oper):Nat->List Nat->DS->Option (Nat×Value×IH)->DR:=
 @List.rec Oper (fun _=>Nat->List Nat->DS->Option (Nat×Value×IH)->DR) (fun _ _ s px=>XU s px)
  (fun o _ ih i ms s px=>@List.rec Nat (fun _=>DR) .fail (fun m ms _=>@Option.rec (Nat×Value×IH) (fun _=>DR) (Om ih i ms s (im P self fi ops n0 i o m s))
   (fun px=>@Bool.rec (fun _=>DR) (CI ih i ms px (im P self fi ops n0 i o m s)) (ih (i+1) ms s (some px)) (Ij m px.1)) px) ms) l
theorem zG (P:Program) (self:Self) (fi:FI) (ops:Array Oper) (n0:Nat) (l:List Oper):∀ i ms s px,iA P self fi ops n0 l i ms s px=bq P self fi ops n0 l i ms s px:=by
 induction l with
 |nil=>intro i ms s px;cases px<;>rfl
 |cons o l ih=>
  intro i ms s px;cases ms with
  |nil=>cases px<;>rfl
  |cons m ms=>
   cases px with
   |none=>
    show Om (iA P self fi ops n0 l) i ms s (im P self fi ops n0 i o m s)=_
    rw [qF];unfold bq Om;cases dE P self fi ops n0 i o m s with
    |done s'=>exact ih _ _ _ _
    |panic v H=>exact ih _ _ _ _
    |fail=>rfl
   |some px=>
    obtain ⟨c,v,H⟩:=px
    show @Bool.rec (fun _=>DR) (CI (iA P self fi ops n0 l) i ms (c,v,H) (im P self fi ops n0 i o m s)) (iA P self fi ops n0 l (i+1) ms s (some (c,v,H))) (Ij m c)=_
    rw [qF,ih,lX];unfold CI
    conv=>rhs;unfold bq
    cases m.testBit c with
    |true=>rfl
    |false=>
     cases dE P self fi ops n0 i o m s with
     |done s'=>exact ih _ _ _ _
     |panic v H=>rfl
     |fail=>rfl
noncomputable def Th {α:Type} (l:List α):(Nat->α->Bool)->Nat->Bool:=@List.rec α (fun _=>(Nat->α->Bool)->Nat->Bool) (fun _ _=>true) (fun a _ ih p i=>@Bool.rec (fun _=>Bool) false (ih p (Nat.succ i)) (p i a)) l
theorem Ky {α:Type} (p:Nat->α->Bool) (d:Bool) (l:List α):∀ k,Th l p k=(List.range l.length).all (fun i=>(l[i]?).elim d (p (k+i))):=by
 induction l with
 |nil=>intro k;rfl
 |cons a l ih=>
  intro k
  show @Bool.rec (fun _=>Bool) false (Th l p (k+1)) (p k a)=_
  rw [ih,zad,List.range_succ_eq_map,List.all_cons,List.all_map];have e:((fun i=>((a::l)[i]?).elim d (p (k+i)))∘Nat.succ)=fun i=>(l[i]?).elim d (p (k+1+i)):=by
   funext i;simp only [Function.comp_apply,List.getElem?_cons_succ];cases l[i]? with
   |none=>rfl
   |some x=>simp only [Nat.succ_eq_add_one,Option.elim];congr 1;omega
  rw [e];simp only [List.getElem?_cons_zero,Nat.add_zero,Option.elim];cases p k a<;>rfl
theorem VF (a b:Nat):Nat.beq a b=(a==b):=by
 rw [Bool.eq_iff_iff,Nat.beq_eq];simp
noncomputable def Wk (x:Option Tmp) (t:Nat):Bool:=@Option.rec Nat (fun _=>Bool) false (fun u=>Nat.beq u t) x
theorem TA (x:Option Tmp) (t:Nat):Wk x t=(x==some t):=by
 cases x with
 |none=>rfl
 |some u=>exact VF u t
noncomputable def QN (ms looks:List Nat) (d:Option Tmp) (m i j t:Nat):Bool:=
 @Bool.rec (fun _=>Bool) false
  (@Bool.rec (fun _=>Bool) (@Bool.rec (fun _=>Bool) (@Bool.rec (fun _=>Bool) true false (L2 looks t)) true (Ij (@Option.rec Nat (fun _=>Nat) 0 (fun n=>n) (Pz ms j)) i)) true (Ij m j))
  (@Bool.rec (fun _=>Bool) (@Bool.rec (fun _=>Bool) true false (Wk d t)) true (Nat.beq j i))
noncomputable def OL (ms looks:List Nat) (d:Option Tmp) (m i j:Nat) (oj:Oper):Bool:=@Option.rec Nat (fun _=>Bool) true (QN ms looks d m i j) oj.dst
noncomputable def Qd (i:Nat) (l:List Edge):Bool:=@List.rec Edge (fun _=>Bool) true (fun e _ ih=>@Bool.rec (fun _=>Bool) false ih (@Bool.rec (fun _=>Bool) true (Nat.ble (Nat.succ e.on) i) (Region.binds .any e))) l
noncomputable def TT (ops:Array Oper) (ms:List Nat) (i:Nat) (o:Oper):Bool:=
 @Option.rec Nat (fun _=>Bool) false (fun m=>@Bool.rec (fun _=>Bool) false (Th ops.toList (OL ms (o.looksAt ops) o.dst m i) 0) (Qd i o.after.toList)) (Pz ms i)
noncomputable def sA (ops:Array Oper) (ms:List Nat):Bool:=Th ops.toList (TT ops ms) 0
theorem zR (l:List Nat) (t:Nat):L2 l t=l.contains t:=by
 induction l with
 |nil=>rfl
 |cons k l ih=>
  show @Bool.rec (fun _=>Bool) (L2 l t) true (Nat.beq k t)=_
  rw [ih,List.contains_cons];have:Nat.beq k t=(t==k):=by
   rw [VF];exact Bool.beq_comm
  rw [this];cases t==k<;>rfl
theorem B9 (ops:Array Oper) (ms:List Nat):sA ops ms=jT ops ms:=by
 unfold sA jT;rw [Ky _ false ops.toList 0];have hsz:ops.toList.length=ops.size:=Array.length_toList;rw [hsz]
 congr 1
 funext i;rw [←Array.getElem?_toList];cases ho:ops.toList[i]? with
 |none=>rfl
 |some o=>
  simp only [Nat.zero_add,Option.elim];unfold TT;rw [Cj];cases hm:ms[i]? with
  |none=>rfl
  |some m=>
   simp only;have hback:∀ l:List Edge,Qd i l=l.all (fun e=> !Region.binds .any e ||decide (e.on<i)):=by
    intro l
    induction l with
    |nil=>rfl
    |cons e l ih=>
     show @Bool.rec (fun _=>Bool) false (Qd i l) (@Bool.rec (fun _=>Bool) true (Nat.ble (Nat.succ e.on) i) (Region.binds .any e))=_
     rw [ih,oK,List.all_cons];have:decide (Nat.succ e.on<=i)=decide (e.on<i):=rfl;rw [this];cases Region.binds .any e<;>cases decide (e.on<i)<;>rfl
   rw [hback,Ky _ true ops.toList 0,hsz]
   have hin:(List.range ops.size).all (fun j=>(ops.toList[j]?).elim true (OL ms (o.looksAt ops) o.dst m i (0+j)))=
     (List.range ops.size).all fun j=>match ops[j]? with
      |some oj=>match oj.dst with
       |none=>true
       |some t=>(j==i ||o.dst !=some t) &&(m.testBit j ||(ms.getD j 0).testBit i || !(o.looksAt ops).contains t)
      |none=>true:=by
    congr 1
    funext j;rw [←Array.getElem?_toList];cases ops.toList[j]? with
    |none=>rfl
    |some oj=>
     simp only [Nat.zero_add,Option.elim];unfold OL;cases oj.dst with
     |none=>rfl
     |some t=>
      show QN ms (o.looksAt ops) o.dst m i j t=_
      unfold QN;rw [Cj,lX,lX,zR,TA];have hg:(@Option.rec Nat (fun _=>Nat) 0 (fun n=>n) ms[j]?)=ms.getD j 0:=by
       rw [List.getD_eq_getElem?_getD];cases ms[j]? <;>rfl
      rw [hg];have hj:Nat.beq j i=(j==i):=VF j i;rw [hj];simp only [bne];cases (j==i)<;>cases (o.dst==some t)<;>cases m.testBit j<;>cases (ms.getD j 0).testBit i<;>cases (o.looksAt ops).contains t<;>rfl
   refine (congrArg (fun b=>@Bool.rec (fun _=>Bool) false b (o.after.toList.all fun e=> !Region.binds .any e ||decide (e.on<i))) hin).trans ?_;cases o.after.toList.all (fun e=> !Region.binds .any e ||decide (e.on<i))<;>rfl
noncomputable def JT (fi:FI) (ops:Array Oper) (T:En) (n0:Nat) (D:List Deferred) (r:DR):eR:=
 @DR.rec (fun _=>eR) (fun s=>some (.normal,s.T,ay n0 s.bp s.H,D)) (fun v H=>some (.panic v,ie fi ops.toList T,H,D)) none r
noncomputable def C9 (P:Program) (self:Self) (fi:FI) (ops:Array Oper) (T:En) (H:IH) (D:List Deferred):eR:=
 @Bool.rec (fun _=>eR) none (JT fi ops T H.n D (iA P self fi ops H.n ops.toList 0 (cJ ops.toList []) ⟨T,{ H with n:=H.n+fI P ops },[],[],[]⟩ none)) (sA ops (cJ ops.toList []))
theorem Ia (P:Program) (self:Self) (fi:FI) (ops:Array Oper) (T:En) (H:IH) (D:List Deferred):C9 P self fi ops T H D=nS P self fi ops T H D:=by
 unfold C9 nS JT;rw [zG,ky,B9];simp only;split
 ·cases bq P self fi ops H.n ops.toList 0 (cJ ops.toList []) ⟨T,{ H with n:=H.n+fI P ops },[],[],[]⟩ none<;>rfl
 ·rfl
noncomputable def VU (xn:En->IH->List Deferred->eR) (r:eR):eR:=
 @Option.rec (X×En×IH×List Deferred) (fun _=>eR) none (fun p=>@Prod.rec X (En×IH×List Deferred) (fun _=>eR) (fun x p=>@X.rec (fun _=>eR) (xn p.1 p.2.1 p.2.2) (fun id=>some (.exit id,p)) (some (.ret,p)) (fun v=>some (.panic v,p)) x) p) r
theorem Ov (xn:En->IH->List Deferred->eR) (r:eR):VU xn r=(match r with |some (.normal,T,H,D)=>xn T H D |r=>r):=by
 cases r with
 |none=>rfl
 |some p=>obtain ⟨x,T,H,D⟩:=p;cases x<;>rfl
noncomputable def RA (id:Nat) (r:eR):eR:=
 @Option.rec (X×En×IH×List Deferred) (fun _=>eR) none (fun p=>@Prod.rec X (En×IH×List Deferred) (fun _=>eR) (fun x p=>@X.rec (fun _=>eR) (some (.normal,p)) (fun j=>@Bool.rec (fun _=>eR) (some (.exit j,p)) (some (.normal,p)) (Nat.beq j id)) (some (.ret,p)) (fun v=>some (.panic v,p)) x) p) r
theorem ON (id:Nat) (r:eR):RA id r=(match r with |some (.exit j,T,H,D)=>if j=id then some (.normal,T,H,D) else some (.exit j,T,H,D) |r=>r):=by
 cases r with
 |none=>rfl
 |some p=>
  obtain ⟨x,T,H,D⟩:=p;cases x with
  |exit j=>
   show @Bool.rec (fun _=>eR) (some (.exit j,T,H,D)) (some (.normal,T,H,D)) (Nat.beq j id)=_
   cases hb:Nat.beq j id with
   |true=>simp [Nat.eq_of_beq_eq_true hb]
   |false=>simp [Nat.ne_of_beq_eq_false hb]
  |_=>rfl
noncomputable def Xf (a b:En->IH->List Deferred->eR) (T:En) (H:IH) (D:List Deferred) (v:Value):eR:=
 match v with
 | .bool c=>@Bool.rec (fun _=>eR) (b T H D) (a T H D) c
 |_=>none
noncomputable def fP (P:Program) (self:Self) (fi:FI) (ro:Option Nat) (c:Code):En->IH->List Deferred->eR:=
 @Code.rec (fun _=>En->IH->List Deferred->eR)
  (fun T H D=>some (.normal,T,H,D))
  (fun _ ops d T H D=>@Bool.rec (fun _=>eR) (O0 P self fi ro ops ops.toList T.reset H D) (C9 P self fi ops T.reset H D) d)
  (fun _ _ ia ib T H D=>VU ib (ia T H D))
  (fun c _ _ ia ib T H D=>Xf ia ib T H D (Ef fi T c))
  (fun id _ ic T H D=>RA id (ic T H D))
  (fun c ic T H D=>VU (self.code fi ro (.loop c)) (ic T H D))
  (fun f ps dV body _ _ T H D=>aK P self fi ro (.rangeFunc f ps dV body) T H D)
  (fun id T H D=>some (.exit id,T,H,D))
  (fun _ ic T H D=>ic T H D)
  (fun _ T H D=>some (.normal,T,H,D))
  (fun _ _ _ _=>none)
  (fun T H D=>some (.ret,T,H,D))
  (fun _ _ _ _=>none) c
theorem wZ (P:Program) (self:Self) (fi:FI) (ro:Option Nat) (c:Code):∀ T H D,fP P self fi ro c T H D=aK P self fi ro c T H D:=by
 induction c with
 |skip=>intro T H D;rfl
 |region id ops d=>
  intro T H D;cases d with
  |false=>exact LP P self fi ro ops ops.toList T.reset H D
  |true=>exact Ia P self fi ops T.reset H D
 |seq a b iha ihb=>
  intro T H D
  show VU (fP P self fi ro b) (fP P self fi ro a T H D)=_
  rw [Ov,iha]
  conv=>rhs;unfold aK
  cases aK P self fi ro a T H D with
  |none=>rfl
  |some p=>
   obtain ⟨x,T,H,D⟩:=p;cases x with
   |normal=>exact ihb T H D
   |_=>rfl
 |cond c a b iha ihb=>
  intro T H D
  show Xf (fP P self fi ro a) (fP P self fi ro b) T H D (Ef fi T c)=_
  rw [kD];unfold Xf
  conv=>rhs;unfold aK
  cases dF fi T c with
  |bool x=>cases x with
   |true=>exact iha T H D
   |false=>exact ihb T H D
  |_=>rfl
 |block id c ih=>
  intro T H D
  show RA id (fP P self fi ro c T H D)=_
  rw [ON,ih]
  conv=>rhs;unfold aK
  rfl
 |loop c ih=>
  intro T H D
  show VU (self.code fi ro (.loop c)) (fP P self fi ro c T H D)=_
  rw [Ov,ih]
  conv=>rhs;unfold aK
  rfl
 |rangeFunc f ps dV body _ _=>intro T H D;rfl
 |exit id=>intro T H D;rfl
 |scope c ih=>intro T H D;exact ih T H D
 |label l=>intro T H D;rfl
 |goto l=>intro T H D;rfl
 |ret=>intro T H D;rfl
 |refuse s=>intro T H D;rfl
noncomputable def QZ (P:Program) (hint:Hint) (self:Self) (fi:FI) (fn:Func) (x:X) (p:En×IH×List Deferred):Option (End×IH):=
 @X.rec (fun _=>Option (End×IH)) (eM P hint self fi fn p.1 p.2.2 .returning p.2.1) (fun _=>none) (eM P hint self fi fn p.1 p.2.2 .returning p.2.1) (fun v=>eM P hint self fi fn p.1 p.2.2 (.panicking v false) p.2.1) x
noncomputable def QF (P:Program) (hint:Hint) (self:Self) (fi:FI) (fn:Func) (r:eR):Option (End×IH):=
 @Option.rec (X×En×IH×List Deferred) (fun _=>Option (End×IH)) none (fun p=>QZ P hint self fi fn p.1 p.2) r
noncomputable def Ui (P:Program) (hint:Hint) (self:Self) (f:FuncId) (args:List Value) (H:IH) (fn:Func) (c:Code):Option (End×IH):=
 @Bool.rec (fun _=>Option (End×IH)) none (QF P hint self (gJ hint f fn) fn (fP P self (gJ hint f fn) none c (eN args) H [])) (fits fn args)
noncomputable def DL (P:Program) (hint:Hint) (self:Self) (f:FuncId) (args:List Value) (H:IH):Option (End×IH):=
 @Option.rec Func (fun _=>Option (End×IH)) none (fun fn=>@Option.rec Code (fun _=>Option (End×IH)) none (Ui P hint self f args H fn) fn.body) P.funcs[f]?
theorem Jb (P:Program) (hint:Hint) (self:Self) (f:FuncId) (args:List Value) (H:IH):DL P hint self f args H=dQ P hint self f args H:=by
 unfold DL dQ;cases P.funcs[f]? with
 |none=>rfl
 |some fn=>
  simp only;cases fn.body with
  |none=>rfl
  |some c=>
   simp only [Ui,ky,wZ];split
   ·unfold QF QZ
    cases aK P self (gJ hint f fn) none c (eN args) H [] with
    |none=>rfl
    |some p=>obtain ⟨x,T,H,D⟩:=p;cases x<;>rfl
   ·rfl
noncomputable def pD (P:Program) (hint:Hint) (spec:Spec) (self:Self) (f:FuncId) (args:List Value) (H:IH):Option (End×IH):=
 @Option.rec (End×IH) (fun _=>Option (End×IH)) (DL P hint self f args H) some (spec f args H)
theorem Hk (P:Program) (hint:Hint) (spec:Spec) (self:Self) (f:FuncId) (args:List Value) (H:IH):pD P hint spec self f args H=da P hint spec self f args H:=by
 unfold pD da;cases spec f args H with
 |none=>exact Jb P hint self f args H
 |some r=>rfl
noncomputable def V2 (P:Program) (hint:Hint) (spec:Spec) (n:Nat):Self:=
 @Nat.rec (fun _=>Self) ⟨fun _ _ _ _ _ _=>none,fun _ _ _=>none⟩ (fun _ s=>⟨fP P s,pD P hint spec s⟩) n
theorem UD (P:Program) (hint:Hint) (spec:Spec):∀ n,V2 P hint spec n=ev P hint spec n:=by
 intro n
 induction n with
 |zero=>rfl
 |succ n ih=>
  show Self.mk (fP P (V2 P hint spec n)) (pD P hint spec (V2 P hint spec n))=⟨aK P (ev P hint spec n),da P hint spec (ev P hint spec n)⟩
  rw [ih]
  congr 1
  ·funext fi ro c T H D;exact wZ P _ fi ro c T H D
  ·funext f args H;exact Hk P hint spec _ f args H
end Go.Iv
