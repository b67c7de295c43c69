/- The same evaluator in a form that the kernel runs fast: each choice by the type's own recursor, each branch a small closed piece. -/
import Derived.Test.YtdelfjdjenlaiaaGreatDoorIvFastA
set_option linter.unusedSimpArgs false
set_option linter.unusedVariables false
namespace Go.Iv
open Go
noncomputable def VL (H:IH) (r:Option (List Value)):Option ag:=@Option.rec (List Value) (fun _=>Option ag) none (fun l=>some (.val (.agg ⟨l⟩) H)) r
noncomputable def QR (P:Program) (H:IH) (t:TypeId) (ps:List (Nat×Value)) (z:Value):Option ag:=
 match P.underlying t with
 |some (.struct fs)=>match placesOf P fs.toList with
  |some places=>VL H (lP (fun i=>places[i]?) z.cells.size ps z.cells.toList)
  |none=>none
 |some (.array _ e)=>match P.info? e with
  |some i=>VL H (lP (fun j=>some (j*i.size,i.size)) z.cells.size ps z.cells.toList)
  |none=>none
 |_=>none
noncomputable def xG (P:Program) (H:IH) (t:TypeId) (ps:List (Nat×Value)):Option ag:=
 @Bool.rec (fun _=>Option ag) none (@Option.rec Value (fun _=>Option ag) none (QR P H t ps) (zeroOf P t)) (ps.all fun p=>Oi p.2)
theorem EM (P:Program) (H:IH) (t:TypeId) (ps:List (Nat×Value)):xG P H t ps=hZ P H t ps:=by
 have agg:∀ (pl:Nat->Option (Nat×Nat)) (cs:Array Value),VL H (lP pl cs.size ps cs.toList)=(match Instr.fill pl cs ps with |some cells=>some (.val (.agg cells) H) |none=>none):=by
  intro pl cs;rw [fill_eq];cases lP pl cs.size ps cs.toList<;>rfl
 unfold xG hZ;cases ps.all fun p=>Oi p.2 with
 |false=>rfl
 |true=>
  simp only [if_true];cases zeroOf P t with
  |none=>rfl
  |some z=>
   simp only [QR];cases P.underlying t with
   |none=>rfl
   |some d=>
    cases d with
    |struct fs=>
     simp only;cases placesOf P fs.toList with
     |none=>rfl
     |some places=>simp only;rw [agg];rfl
    |array n e=>
     simp only;cases P.info? e with
     |none=>rfl
     |some i=>simp only;rw [agg];rfl
    |_=>rfl
noncomputable def Xa (H:IH) (e:TypeId) (len:Nat) (r:Option (List Value)):Option ag:=@Option.rec (List Value) (fun _=>Option ag) none (fun l=>some (.val (.slice (some ⟨H.n,0,none⟩) len len) (bI H e l))) r
noncomputable def jw (P:Program) (H:IH) (t:TypeId) (len:Nat) (ps:List (Nat×Value)):Option ag:=
 match bM P t with
 |some (e,i)=>
  if len*(i.size+1)<=2^24 &&ps.all (fun p=>Oi p.2) then
   match zeroOf P e with
   |some z=>
    if z.cells.size=i.size then Xa H e len (lP (fun j=>some (j*i.size,i.size)) (dx z.cells.toList len).length ps (dx z.cells.toList len)) else none
   |none=>none
  else none
 |none=>none
theorem se (P:Program) (H:IH) (t:TypeId) (len:Nat) (ps:List (Nat×Value)):jw P H t len ps=aW P H t len ps:=by
 have aJ:∀ (pl:Nat->Option (Nat×Nat)) (e:TypeId) (cs:List Value),Xa H e len (lP pl cs.length ps cs)=(match Instr.fill pl ⟨cs⟩ ps with |some cells=>some (ag.val (.slice (some ⟨H.n,0,none⟩) len len) (bI H e cells.toList)) |none=>none):=by
  intro pl e cs;rw [fill_eq]
  show _=(match (lP pl cs.length ps cs).map fun l=>(⟨l⟩:Array Value) with |some cells=>some (ag.val (.slice (some ⟨H.n,0,none⟩) len len) (bI H e cells.toList)) |none=>none)
  cases lP pl cs.length ps cs<;>rfl
 unfold jw aW;cases bM P t with
 |none=>rfl
 |some ei=>
  obtain ⟨e,i⟩:=ei;simp only;split
  ·cases zeroOf P e with
   |none=>rfl
   |some z=>
    simp only;split
    ·exact aJ _ _ _
    ·rfl
  ·rfl
noncomputable def Iz (n off:Nat) (o:Option bA):Option (List Value):=
 match o with
 |some (.cells cs _ _ _ _)=>PH n (Sz off cs)
 |_=>none
theorem MH (H:IH) (b off n:Nat) (hn:n≠0):Iz n off (H.get b)=H.bq b off n:=by
 unfold Iz IH.bq;cases H.get b with
 |none=>rfl
 |some o=>
  cases o with
  |cells cs e fz ex sh=>
   simp only;rw [QJ,RG];by_cases h:off+n<=cs.length
   ·rw [if_pos (by simp;omega),if_pos h]
   ·rw [if_neg (by simp;omega),if_neg h]
  |_=>rfl
noncomputable def Vw (off:Nat) (o:Option bA):Option Value:=
 match o with
 |some (.cells cs _ _ _ _)=>R9 cs off
 |_=>none
noncomputable def Xi (r:Option (List Value)):Option Value:=@Option.rec (List Value) (fun _=>Option Value) none (fun l=>some (.agg ⟨l⟩)) r
noncomputable def Xh (P:Program) (H:IH) (t:TypeId) (b off:Nat):Option Value:=
 match eK P t with
 |some true=>match P.info? t with
  |some i=>@Bool.rec (fun _=>Option Value) (Xi (Iz i.size off (H.get b))) (iS P H t b off) (Nat.beq i.size 0)
  |none=>none
 |some false=>Vw off (H.get b)
 |none=>none
theorem V6 (P:Program) (H:IH) (t:TypeId) (b off:Nat):Xh P H t b off=iS P H t b off:=by
 unfold Xh iS;cases eK P t with
 |none=>rfl
 |some x=>
  cases x with
  |true=>
   simp only;cases P.info? t with
   |none=>rfl
   |some i=>
    simp only;cases hz:Nat.beq i.size 0 with
    |true=>rfl
    |false=>
     simp only;rw [MH H b off i.size (Nat.ne_of_beq_eq_false hz)];unfold Xi;cases H.bq b off i.size<;>rfl
  |false=>
   simp only;unfold Vw;cases H.get b with
   |none=>rfl
   |some o=>
    cases o with
    |cells cs e fz ex sh=>exact CF cs off
    |_=>rfl
noncomputable def Vl (H:IH) (b:Nat) (e:TypeId) (fz:Nat) (ex sh:Bool) (r:Option (List Value)):Option IH:=@Option.rec (List Value) (fun _=>Option IH) none (fun cs=>some (H.put b (.cells cs e fz ex sh))) r
noncomputable def Ya (H:IH) (b off:Nat) (v:Value):Option IH:=
 match H.get b with
 |some (.cells cs e fz ex sh)=>@Bool.rec (fun _=>Option IH) none (Vl H b e fz ex sh (WB off v cs)) (Qh (Nat.ble dO b) (Qh (Nat.ble fz off) (one v)))
 |_=>none
theorem oK (a b:Nat):Nat.ble a b=decide (a<=b):=by
 cases h:Nat.ble a b with
 |true=>exact (decide_eq_true (Nat.le_of_ble_eq_true h)).symm
 |false=>exact (decide_eq_false fun x=>by rw [Nat.ble_eq_true_of_le x] at h;cases h).symm
theorem V3 (H:IH) (b off:Nat) (v:Value):Ya H b off v=H.dF b off [v]:=by
 unfold Ya IH.dF;simp only [List.isEmpty_cons,Bool.false_eq_true,if_false];cases H.get b with
 |none=>rfl
 |some o=>
  cases o with
  |cells cs e fz ex sh=>
   simp only [Kl,oK,Up,Vl,List.length_singleton,List.all_cons,List.all_nil,Bool.and_true];by_cases h1:dO<=b<;>by_cases h2:fz<=off<;>by_cases h3:off+1<=cs.length<;>cases one v<;>simp [h1,h2,h3]
  |_=>rfl
noncomputable def Bt (r:Option IH):Option ag:=@Option.rec IH (fun _=>Option ag) none (fun H=>some (.skip H)) r
noncomputable def Y6 (P:Program) (H:IH) (t:TypeId) (v:Value) (b off:Nat):Option ag:=
 match eK P t with
 |some false=>match P.info? t,v with
  |some i,.agg cs=>Bt (if cs.size=i.size then H.dF b off cs.toList else none)
  |some i,v=>@Bool.rec (fun _=>Option ag) none (Bt (Ya H b off v)) (Nat.beq i.size 1)
  |none,_=>none
 |_=>Bt (gH P H t b off v)
theorem V5 (P:Program) (H:IH) (t:TypeId) (v:Value) (b off:Nat):Y6 P H t v b off=(match gH P H t b off v with |some H=>some (.skip H) |none=>none):=by
 have sk:∀ r:Option IH,Bt r=(match r with |some H=>some (.skip H) |none=>none):=fun r=>by cases r<;>rfl
 have one_:∀ (i:TypeInfo) (v:Value),P.info? t=some i->v.cells=#[v]->@Bool.rec (fun _=>Option ag) none (Bt (Ya H b off v)) (Nat.beq i.size 1)=(match gH P H t b off v with |some H=>some (.skip H) |none=>none):=by
  intro i v hi hc;unfold gH;rw [hi];simp only [hc,V3,sk];cases hz:Nat.beq i.size 1 with
  |true=>
   have:=Nat.eq_of_beq_eq_true hz;rw [if_pos (by simpa using this.symm)]
  |false=>
   have:=Nat.ne_of_beq_eq_false hz;rw [if_neg (by simpa using fun e:1=i.size=>this e.symm)]
 unfold Y6;cases eK P t with
 |none=>exact sk _
 |some x=>
  cases x with
  |true=>exact sk _
  |false=>
   simp only;cases hi:P.info? t with
   |none=>
    have:gH P H t b off v=none:=by unfold gH;rw [hi]
    rw [this]
   |some i=>
    cases v with
    |agg cs=>
     show Bt _=_
     rw [sk];unfold gH;rw [hi];rfl
    |_=>exact one_ i _ hi rfl
noncomputable def qk (P:Program) (H:IH) (t:TypeId) (a:Value):Option ag:=
 match a with
 | .pointer (some ⟨b,off,none⟩)=>@Option.rec Value (fun _=>Option ag) none (fun v=>some (.val v H)) (Xh P H t b off)
 |_=>none
theorem IW (P:Program) (H:IH) (t:TypeId) (a:Value):qk P H t a=dy P H t a:=by
 unfold qk dy;cases a with
 |pointer p=>
  cases p with
  |none=>rfl
  |some ad=>
   obtain ⟨b,off,sp⟩:=ad;cases sp with
   |none=>simp only;rw [V6];cases iS P H t b off<;>rfl
   |some _=>rfl
 |_=>rfl
noncomputable def xJ (P:Program) (H:IH) (t:TypeId) (a v:Value):Option ag:=
 match a with
 | .pointer (some ⟨b,off,none⟩)=>Y6 P H t v b off
 |_=>none
theorem Fi (P:Program) (H:IH) (t:TypeId) (a v:Value):xJ P H t a v=bW P H t a v:=by
 unfold xJ bW;cases a with
 |pointer p=>
  cases p with
  |none=>rfl
  |some ad=>
   obtain ⟨b,off,sp⟩:=ad;cases sp with
   |none=>exact V5 P H t v b off
   |some _=>rfl
 |_=>rfl
noncomputable def SG (i:Int) (n:Nat):Option Nat:=@Int.rec (fun _=>Option Nat) (fun a=>@Bool.rec (fun _=>Option Nat) none (some a) (Nat.ble (Nat.succ a) n)) (fun _=>none) i
theorem Tt (i:Int) (n:Nat):SG i n=if 0<=i &&i<(n:Int) then some i.toNat else none:=by
 cases i with
 |ofNat a=>
  show @Bool.rec (fun _=>Option Nat) none (some a) (Nat.ble (Nat.succ a) n)=_
  rw [oK];by_cases h:a<n
  ·rw [decide_eq_true (show Nat.succ a<=n from h)];simp [h]
  ·rw [decide_eq_false (show ¬ Nat.succ a<=n from h)];simp [h]
 |negSucc a=>simp [SG]
noncomputable def Si (H:IH) (b off size:Nat) (r:Option Nat):Option ag:=@Option.rec Nat (fun _=>Option ag) none (fun i=>some (.val (.pointer (some ⟨b,Nat.add off (Nat.mul i size),none⟩)) H)) r
noncomputable def kp (P:Program) (H:IH) (t:TypeId) (x ix:Value):Option ag:=
 match P.underlying t,x,ix with
 |some (.array n e),.pointer (some ⟨b,off,none⟩),.int _ i=>match P.info? e with
  |some inf=>Si H b off inf.size (SG i n)
  |none=>none
 |some (.slice e),.slice (some ⟨b,off,none⟩) len _,.int _ i=>match P.info? e with
  |some inf=>Si H b off inf.size (SG i len)
  |none=>none
 |_,_,_=>none
theorem uW (P:Program) (H:IH) (t:TypeId) (x ix:Value):kp P H t x ix=br P H t x ix:=by
 have pt:∀ (b off size n:Nat) (i:Int),Si H b off size (SG i n)=if 0<=i &&i<(n:Int) then some (.val (.pointer (some ⟨b,off+i.toNat*size,none⟩)) H) else none:=by
  intro b off size n i;rw [Tt];split<;>rfl
 unfold kp br;simp only [pt];rfl
section ops
variable (P:Program) (self:Self)
noncomputable def yL (_:Operand->Value) (_:IH):Option ag:=none
noncomputable def U0 (x:Operand) (Z:Operand->Value) (H:IH):Option ag:=some (.val (Z x) H)
noncomputable def U6 (c a b:Operand) (Z:Operand->Value) (H:IH):Option ag:=lS H (Z c) (Z a) (Z b)
noncomputable def QU (e:TypeId) (_:Operand->Value) (H:IH):Option ag:=fC P H e
noncomputable def Xb (e:TypeId) (x:Operand) (Z:Operand->Value) (H:IH):Option ag:=nD H e (Z x)
noncomputable def OQ (t:TypeId) (parts:Array (Nat×Operand)) (Z:Operand->Value) (H:IH):Option ag:=xG P H t (parts.toList.map fun p=>(p.1,Z p.2))
noncomputable def tc (t:TypeId) (len:Nat) (parts:Array (Nat×Operand)) (Z:Operand->Value) (H:IH):Option ag:=jw P H t len (parts.toList.map fun p=>(p.1,Z p.2))
noncomputable def u6 (t:TypeId) (m k v:Operand) (Z:Operand->Value) (H:IH):Option ag:=eR P H t (Z m) (Z k) (Z v)
noncomputable def WZ (t:TypeId) (a:Operand) (Z:Operand->Value) (H:IH):Option ag:=qk P H t (Z a)
noncomputable def PS (t:TypeId) (a v:Operand) (Z:Operand->Value) (H:IH):Option ag:=xJ P H t (Z a) (Z v)
noncomputable def W8 (x:Operand) (Z:Operand->Value) (H:IH):Option ag:=ek H (Z x)
noncomputable def b2 (f:IntKind->Int->Int->Value) (alt:Option ag) (H:IH) (a b:Value):Option ag:=
 match a,b with
 | .int k n,.int k' m=>if k=k' then some (.val (f k n m) H) else none
 |_,_=>alt
noncomputable def Cr (op:BinOp) (t:TypeId) (x y:Operand) (a b:Value) (H:IH):Option ag:=aD P H op t x y a b
noncomputable def YJ (t:TypeId) (x y:Operand) (a b:Value) (H:IH):Option ag:=b2 (fun k n m=> .int k (DE k (Wr n m))) (aD P H .add t x y a b) H a b
noncomputable def YO (t:TypeId) (x y:Operand) (a b:Value) (H:IH):Option ag:=b2 (fun k n m=> .int k (DE k (n - m))) (aD P H .sub t x y a b) H a b
noncomputable def YA (t:TypeId) (x y:Operand) (a b:Value) (H:IH):Option ag:=b2 (fun _ n m=> .bool (aR n m)) (aD P H .lss t x y a b) H a b
noncomputable def Y4 (t:TypeId) (x y:Operand) (a b:Value) (H:IH):Option ag:=b2 (fun _ n m=> .bool (aQ n m)) (aD P H .leq t x y a b) H a b
noncomputable def YS (t:TypeId) (x y:Operand) (a b:Value) (H:IH):Option ag:=b2 (fun _ n m=> .bool (aR m n)) (aD P H .gtr t x y a b) H a b
noncomputable def Y9 (t:TypeId) (x y:Operand) (a b:Value) (H:IH):Option ag:=b2 (fun _ n m=> .bool (aQ m n)) (aD P H .geq t x y a b) H a b
noncomputable def YD (t:TypeId) (x y:Operand) (a b:Value) (H:IH):Option ag:=b2 (fun _ n m=> .bool (n==m)) (aD P H .eql t x y a b) H a b
noncomputable def YX (t:TypeId) (x y:Operand) (a b:Value) (H:IH):Option ag:=b2 (fun _ n m=> .bool (n !=m)) (aD P H .neq t x y a b) H a b
noncomputable def Pk (op:BinOp) (t:TypeId) (x y:Operand) (_:TypeId) (Z:Operand->Value) (H:IH):Option ag:=
 @BinOp.rec (fun _=>TypeId->Operand->Operand->Value->Value->IH->Option ag) (YJ P) (YO P) (Cr P .mul) (Cr P .quo) (Cr P .rem) (Cr P .and) (Cr P .or) (Cr P .xor) (Cr P .shl) (Cr P .shr) (Cr P .andNot)
  (YD P) (YX P) (YA P) (Y4 P) (YS P) (Y9 P) op t x y (Z x) (Z y) H
theorem To (op:BinOp) (t:TypeId) (x y:Operand) (yt:TypeId) (Z:Operand->Value) (H:IH):Pk P op t x y yt Z H=aD P H op t x y (Z x) (Z y):=by
 have key:∀ (f:IntKind->Int->Int->Value) (op:BinOp),(∀ k n m,aD P H op t x y (.int k n) (.int k m)=some (.val (f k n m) H))->(∀ k k' n m,k≠k'->aD P H op t x y (.int k n) (.int k' m)=none)->
   ∀ a b,b2 f (aD P H op t x y a b) H a b=aD P H op t x y a b:=by
  intro f op h1 h2 a b;unfold b2;split
  ·split
   ·rename_i h;subst h;exact (h1 _ _ _).symm
   ·rename_i h;exact (h2 _ _ _ _ h).symm
  ·rfl
 unfold Pk;cases op
 case add=>exact key _ _ (fun k n m=>by simp only [aD,if_true,Gc,Uy]) (fun k k' n m h=>by simp only [aD,if_neg h]) _ _
 case sub=>exact key _ _ (fun k n m=>by simp only [aD,if_true,Gc]) (fun k k' n m h=>by simp only [aD,if_neg h]) _ _
 case lss=>exact key _ _ (fun k n m=>by simp only [aD,if_true]) (fun k k' n m h=>by simp only [aD,if_neg h]) _ _
 case leq=>exact key _ _ (fun k n m=>by simp only [aD,if_true]) (fun k k' n m h=>by simp only [aD,if_neg h]) _ _
 case gtr=>exact key _ _ (fun k n m=>by simp only [aD,if_true]) (fun k k' n m h=>by simp only [aD,if_neg h]) _ _
 case geq=>exact key _ _ (fun k n m=>by simp only [aD,if_true]) (fun k k' n m h=>by simp only [aD,if_neg h]) _ _
 case eql=>exact key _ _ (fun k n m=>by simp [aD,bT]) (fun k k' n m h=>by simp [aD,bT,h]) _ _
 case neq=>exact key _ _ (fun k n m=>by simp [aD,bT]) (fun k k' n m h=>by simp [aD,bT,h]) _ _
 all_goals rfl
noncomputable def Zf (op:UnOp) (_:TypeId) (x:Operand) (Z:Operand->Value) (H:IH):Option ag:=EG P H op (Z x)
noncomputable def Vo (s d:TypeId) (x:Operand) (Z:Operand->Value) (H:IH):Option ag:=bb P H s d (Z x)
noncomputable def XG (t:TypeId) (x:Operand) (Z:Operand->Value) (H:IH):Option ag:=dM P H t (Z x)
noncomputable def Xl (fn:Fn) (a c:Array Operand) (Z:Operand->Value) (H:IH):Option ag:=if eU fn then some (.val (.func fn ⟨a.toList.map Z⟩ ⟨c.toList.map Z⟩) H) else none
noncomputable def XN (t:TypeId) (r:Option Operand) (Z:Operand->Value) (H:IH):Option ag:=cj P H t (r.map Z)
noncomputable def W5 (t:TypeId) (l c:Operand) (Z:Operand->Value) (H:IH):Option ag:=bg P H t (Z l) (Z c)
noncomputable def QV (t:TypeId) (x:Operand) (lo hi mx:Option Operand) (Z:Operand->Value) (H:IH):Option ag:=cV P H t (Z x) (lo.map Z) (hi.map Z) (mx.map Z)
noncomputable def Zk (s:TypeId) (x:Operand) (f:Nat) (Z:Operand->Value) (H:IH):Option ag:=cD P H s (Z x) f
noncomputable def Zg (s:TypeId) (x:Operand) (f:Nat) (Z:Operand->Value) (H:IH):Option ag:=je P H s (Z x) f
noncomputable def Zj (t:TypeId) (x i:Operand) (Z:Operand->Value) (H:IH):Option ag:=kp P H t (Z x) (Z i)
noncomputable def Zm (t:TypeId) (x i:Operand) (Z:Operand->Value) (H:IH):Option ag:=ig P H t (Z x) (Z i)
noncomputable def Zr (t:TypeId) (x k:Operand) (ok:Bool) (Z:Operand->Value) (H:IH):Option ag:=cU P H t (Z x) (Z k) ok
noncomputable def Pn (t:TypeId) (x:Operand) (Z:Operand->Value) (H:IH):Option ag:=mM P H t (Z x)
noncomputable def U3 (x:Operand) (s:Bool) (Z:Operand->Value) (H:IH):Option ag:=@Bool.rec (fun _=>Option ag) none (lU H (Z x)) s
noncomputable def Zs (x:Operand) (_ asserted:TypeId) (ok:Bool) (Z:Operand->Value) (H:IH):Option ag:=dm P H (Z x) asserted ok
noncomputable def Zu (x:Operand) (i:Nat) (Z:Operand->Value) (H:IH):Option ag:=fp H (Z x) i
noncomputable def Rp (x:Operand) (Z:Operand->Value) (H:IH):Option ag:=qh H (Z x)
noncomputable def RN (c:Call) (Z:Operand->Value) (H:IH):Option ag:=
 match c.callee with
 | .value f=>kJ H (Z f) (c.args.toList.map Z)
 |_=>none
noncomputable def KG (args:List Value) (H:IH) (fv:Value):Option ag:=
 match fv with
 | .func (.yield l) _ _=>match fM self l args H with
  |some (v,H)=>some (.val v H)
  |none=>none
 |fv=>mo (gJ P self H fv args)
noncomputable def ZQ (args:Array Operand) (argTypes:Array TypeId) (ty:TypeId) (Z:Operand->Value) (H:IH) (b:Builtin):Option ag:=bk P H b argTypes ty (args.toList.map Z)
noncomputable def YB (args:Array Operand) (Z:Operand->Value) (H:IH) (f:Operand):Option ag:=KG P self (args.toList.map Z) H (Z f)
noncomputable def WW (ty:TypeId) (c:Call) (Z:Operand->Value) (H:IH):Option ag:=
 @Callee.rec (fun _=>Option ag) (YB P self c.args Z H) (fun _ _=>none) (ZQ P c.args c.argTypes ty Z H) c.callee
noncomputable def Br (Z:Operand->Value) (H:IH) (o:Oper):Option ag:=
 @Op.rec (fun _=>(Operand->Value)->IH->Option ag)
  U0 U0 U6 (QU P) Xb (OQ P) (tc P) (u6 P) (WZ P) (PS P) (fun _=>yL) (fun _=>yL) W8 (Pk P) (Zf P) (Vo P) (fun _ _=>yL) (XG P) Xl (XN P) (fun _ _=>yL) (W5 P) (QV P) (Zk P) (Zg P) (Zj P) (Zm P) (Zr P)
  (u6 P) (fun _ _ _=>yL) (fun _ _ _ _=>yL) (Pn P) U3 (fun _=>yL) (Zs P) Zu (WW P self o.type) (fun _=>yL) RN Rp (fun _ _=>yL) (fun _ _ _=>yL) (fun _ _=>yL) o.op Z H
theorem jQ (Z:Operand->Value) (H:IH) (o:Oper):Br P self Z H o=aO P self Z H o:=by
 obtain ⟨dst,op,type,pos,after,guard⟩:=o;cases op
 case binOp op t x y yt=>exact To P op t x y yt Z H
 case next x s=>cases s<;>rfl
 case build t ps=>exact EM P H t _
 case buildSlice t n ps=>exact se P H t n _
 case load t a=>exact IW P H t _
 case store t a v=>exact Fi P H t _ _
 case indexAddr t x i=>exact uW P H t _ _
 case call c=>
  obtain ⟨callee,args,ats⟩:=c;cases callee with
  |value f=>
   show KG P self (args.toList.map Z) H (Z f)=da P self Z H ⟨.value f,args,ats⟩ type
   unfold KG da;rfl
  |invoke r n=>rfl
  |builtin b=>rfl
 all_goals rfl
end ops
noncomputable def Xw (want:Bool) (v:Value):Option Bool:=
 match v with
 | .bool b=>some (b==want)
 | .chan _=>none
 |_=>some false
noncomputable def Sy (fi:FI) (ops:Array Oper) (E:En) (g:Nat×Bool):Option Bool:=
 @Option.rec Nat (fun _=>Option Bool) (some false) (fun d=>Xw g.2 (Tq fi E d)) ((ops[g.1]?).bind (·.dst))
theorem PN (fi:FI) (ops:Array Oper) (E:En) (o:Oper) (g:Nat×Bool) (h:o.guard=some g):Sy fi ops E g=bG fi ops E o:=by
 obtain ⟨j,b⟩:=g;unfold Sy bG;rw [h];simp only;cases (ops[j]?).bind (·.dst) with
 |none=>rfl
 |some d=>simp only [KM];rfl
noncomputable def gF {R:Type} (no:R) (fi:FI) (ops:Array Oper) (E:En) (o:Oper) (a b:R):R:=
 @Option.rec (Nat×Bool) (fun _=>R) a (fun g=>@Option.rec Bool (fun _=>R) no (fun w=>@Bool.rec (fun _=>R) b a w) (Sy fi ops E g)) o.guard
theorem U8 {R:Type} (no:R) (fi:FI) (ops:Array Oper) (E:En) (o:Oper) (a b:R):gF no fi ops E o a b=(match bG fi ops E o with |some true=>a |some false=>b |none=>no):=by
 unfold gF;cases hg:o.guard with
 |none=>simp only [bG,hg]
 |some g=>
  simp only [PN fi ops E o g hg];cases bG fi ops E o with
  |none=>rfl
  |some w=>cases w<;>rfl
abbrev Nx:=AL->AL->IH->List Deferred->eS
noncomputable def eX (fi:FI) (loc tmp:AL) (t:Nat):Value:=@S4.rec (fun _=>Value) aS (WR loc t) (WR tmp t) (J1 fi t)
noncomputable def bZ (fi:FI) (loc tmp:AL) (x:Operand):Value:=@Operand.rec (fun _=>Value) (eX fi loc tmp) TS UG X3 x
theorem UK (fi:FI) (loc tmp:AL):bZ fi loc tmp=dC fi ⟨loc,tmp⟩:=ko fi ⟨loc,tmp⟩
noncomputable def Y1 (fi:FI) (next:Nx) (loc tmp:AL) (H:IH) (D:List Deferred) (v:Value) (d:Nat):eS:=
 @S4.rec (fun _=>eS) (next loc tmp H D) (next (PE loc d v) tmp H D) (next loc (.c d v tmp) H D) (J1 fi d)
noncomputable def uM (fi:FI) (dst:Option Tmp) (next:Nx) (loc tmp:AL) (H:IH) (D:List Deferred) (v:Value):eS:=
 @Option.rec Nat (fun _=>eS) (next loc tmp H D) (Y1 fi next loc tmp H D v) dst
theorem LX (fi:FI) (dst:Option Tmp) (N:En->IH->List Deferred->eS) (loc tmp:AL) (H:IH) (D:List Deferred) (v:Value):
  uM fi dst (fun l t=>N ⟨l,t⟩) loc tmp H D v=N (c8 fi ⟨loc,tmp⟩ dst v) H D:=by
 cases dst with
 |none=>rfl
 |some d=>
  show @S4.rec (fun _=>eS) (N ⟨loc,tmp⟩ H D) (N ⟨PE loc d v,tmp⟩ H D) (N ⟨loc,.c d v tmp⟩ H D) (J1 fi d)=N (nq fi d v ⟨loc,tmp⟩) H D
  unfold nq;rw [Kc,BX];cases cls fi d<;>rfl
noncomputable def kG (fi:FI) (ro:Option Nat) (dst:Option Tmp) (next:Nx) (loc tmp:AL) (D:List Deferred) (r:Option ag):eS:=
 @Option.rec ag (fun _=>eS) none (fun r=>@ag.rec (fun _=>eS) (fun v H=>uM fi dst next loc tmp H D v) (fun H=>uM fi dst next loc tmp H D undef)
  (fun d H=>if ro.isNone then uM fi dst next loc tmp H (d::D) undef else none) (fun v H=>some (.panic v,⟨loc,tmp⟩,H,D)) r) r
noncomputable def kV (fi:FI) (_ro:Option Nat) (dst:Option Tmp) (next:Nx) (loc tmp:AL) (H:IH) (D:List Deferred) (r:Option Value):eS:=
 @Option.rec Value (fun _=>eS) none (uM fi dst next loc tmp H D) r
section step
variable (P:Program) (self:Self)
noncomputable def U2 (x:Operand) (fi:FI) (_ro:Option Nat) (dst:Option Tmp) (next:Nx) (loc tmp:AL) (H:IH) (D:List Deferred):eS:=uM fi dst next loc tmp H D (bZ fi loc tmp x)
noncomputable def dS (h:(Operand->Value)->IH->Option ag) (fi:FI) (ro:Option Nat) (dst:Option Tmp) (next:Nx) (loc tmp:AL) (H:IH) (D:List Deferred):eS:=kG fi ro dst next loc tmp D (h (bZ fi loc tmp) H)
noncomputable def s2 (fi:FI) (ro:Option Nat) (dst:Option Tmp) (next:Nx) (loc tmp:AL) (H:IH) (D:List Deferred) (f:IntKind->Int->Int->Value) (alt:Option ag) (a b:Value):eS:=
 match a,b with
 | .int k n,.int k' m=>if k=k' then uM fi dst next loc tmp H D (f k n m) else none
 |_,_=>kG fi ro dst next loc tmp D alt
abbrev zy:=TypeId->Operand->Operand->FI->Option Nat->Option Tmp->Nx->AL->AL->IH->List Deferred->Value->Value->eS
noncomputable def C0 (op:BinOp):zy:=fun t x y fi ro dst next loc tmp H D a b=>kG fi ro dst next loc tmp D (aD P H op t x y a b)
noncomputable def Yv:zy:=fun t x y fi ro dst next loc tmp H D a b=>s2 fi ro dst next loc tmp H D (fun k n m=> .int k (DE k (Wr n m))) (aD P H .add t x y a b) a b
noncomputable def Zd:zy:=fun t x y fi ro dst next loc tmp H D a b=>s2 fi ro dst next loc tmp H D (fun k n m=> .int k (DE k (n - m))) (aD P H .sub t x y a b) a b
noncomputable def YK:zy:=fun t x y fi ro dst next loc tmp H D a b=>s2 fi ro dst next loc tmp H D (fun _ n m=> .bool (aR n m)) (aD P H .lss t x y a b) a b
noncomputable def Yo:zy:=fun t x y fi ro dst next loc tmp H D a b=>s2 fi ro dst next loc tmp H D (fun _ n m=> .bool (aQ n m)) (aD P H .leq t x y a b) a b
noncomputable def Zb:zy:=fun t x y fi ro dst next loc tmp H D a b=>s2 fi ro dst next loc tmp H D (fun _ n m=> .bool (aR m n)) (aD P H .gtr t x y a b) a b
noncomputable def YW:zy:=fun t x y fi ro dst next loc tmp H D a b=>s2 fi ro dst next loc tmp H D (fun _ n m=> .bool (aQ m n)) (aD P H .geq t x y a b) a b
noncomputable def Yu:zy:=fun t x y fi ro dst next loc tmp H D a b=>s2 fi ro dst next loc tmp H D (fun _ n m=> .bool (n==m)) (aD P H .eql t x y a b) a b
noncomputable def Yl:zy:=fun t x y fi ro dst next loc tmp H D a b=>s2 fi ro dst next loc tmp H D (fun _ n m=> .bool (n !=m)) (aD P H .neq t x y a b) a b
noncomputable def Ww (op:BinOp) (t:TypeId) (x y:Operand) (_:TypeId) (fi:FI) (ro:Option Nat) (dst:Option Tmp) (next:Nx) (loc tmp:AL) (H:IH) (D:List Deferred):eS:=
 @BinOp.rec (fun _=>zy) (Yv P) (Zd P) (C0 P .mul) (C0 P .quo) (C0 P .rem) (C0 P .and) (C0 P .or) (C0 P .xor) (C0 P .shl) (C0 P .shr) (C0 P .andNot)
  (Yu P) (Yl P) (YK P) (Yo P) (Zb P) (YW P) op t x y fi ro dst next loc tmp H D (bZ fi loc tmp x) (bZ fi loc tmp y)
noncomputable def QY (t:TypeId) (a:Operand) (fi:FI) (ro:Option Nat) (dst:Option Tmp) (next:Nx) (loc tmp:AL) (H:IH) (D:List Deferred):eS:=
 match bZ fi loc tmp a with
 | .pointer (some ⟨b,off,none⟩)=>kV fi ro dst next loc tmp H D (Xh P H t b off)
 |_=>none
noncomputable def Ws (t:TypeId) (H:IH) (x:Value):Option Value:=
 match P.underlying t,x with
 |some (.slice _),.slice _ n _=>some (.int .i64 (.ofNat n))
 |_,x=>eD P H t x
theorem SZ (t:TypeId) (H:IH) (x:Value):Ws P t H x=eD P H t x:=by
 unfold Ws;split
 ·rename_i e a n c hu
  unfold eD;rw [hu];rfl
 ·rfl
noncomputable def sLen (ats:Array TypeId) (fi:FI) (ro:Option Nat) (dst:Option Tmp) (next:Nx) (loc tmp:AL) (H:IH) (D:List Deferred) (x:Operand):eS:=
 @Option.rec Nat (fun _=>eS) none (fun t=>kV fi ro dst next loc tmp H D (Ws P t H (bZ fi loc tmp x))) ats[0]?
noncomputable def YM (args:Array Operand) (ats:Array TypeId) (ty:TypeId) (fi:FI) (ro:Option Nat) (dst:Option Tmp) (next:Nx) (loc tmp:AL) (H:IH) (D:List Deferred) (b:Builtin):eS:=
 match b,args.toList with
 | .len,[x]=>sLen P ats fi ro dst next loc tmp H D x
 |b,l=>kG fi ro dst next loc tmp D (bk P H b ats ty (l.map (bZ fi loc tmp)))
noncomputable def Xc (ty:TypeId) (c:Call) (fi:FI) (ro:Option Nat) (dst:Option Tmp) (next:Nx) (loc tmp:AL) (H:IH) (D:List Deferred):eS:=
 @Callee.rec (fun _=>eS) (fun f=>kG fi ro dst next loc tmp D (KG P self (c.args.toList.map (bZ fi loc tmp)) H (bZ fi loc tmp f))) (fun _ _=>none) (YM P c.args c.argTypes ty fi ro dst next loc tmp H D) c.callee
noncomputable def stepG (o:Oper):FI->Option Nat->Option Tmp->Nx->AL->AL->IH->List Deferred->eS:=
 @Op.rec (fun _=>FI->Option Nat->Option Tmp->Nx->AL->AL->IH->List Deferred->eS)
  U2 U2 (fun c a b=>dS (U6 c a b)) (fun e=>dS (QU P e)) (fun e x=>dS (Xb e x)) (fun t ps=>dS (OQ P t ps)) (fun t n ps=>dS (tc P t n ps)) (fun t m k v=>dS (u6 P t m k v))
  (QY P) (fun t a v=>dS (PS P t a v)) (fun _=>dS yL) (fun _=>dS yL) (fun x=>dS (W8 x)) (Ww P) (fun op t x=>dS (Zf P op t x)) (fun s d x=>dS (Vo P s d x)) (fun _ _=>dS yL) (fun t x=>dS (XG P t x))
  (fun fn a c=>dS (Xl fn a c)) (fun t r=>dS (XN P t r)) (fun _ _=>dS yL) (fun t l c=>dS (W5 P t l c)) (fun t x l h m=>dS (QV P t x l h m)) (fun s x f=>dS (Zk P s x f)) (fun s x f=>dS (Zg P s x f)) (fun t x i=>dS (Zj P t x i)) (fun t x i=>dS (Zm P t x i))
  (fun t x k ok=>dS (Zr P t x k ok)) (fun t m k v=>dS (u6 P t m k v)) (fun _ _ _=>dS yL) (fun _ _ _ _=>dS yL) (fun t x=>dS (Pn P t x)) (fun x s=>dS (U3 x s)) (fun _=>dS yL) (fun x xt t ok=>dS (Zs P x xt t ok)) (fun x i=>dS (Zu x i))
  (Xc P self o.type) (fun _=>dS yL) (fun c=>dS (RN c)) (fun x=>dS (Rp x)) (fun _ _=>dS yL) (fun _ _ _=>dS yL) (fun _ _=>dS yL) o.op
theorem Sn (o:Oper) (fi:FI) (ro:Option Nat) (dst:Option Tmp) (next:Nx) (loc tmp:AL) (H:IH) (D:List Deferred):stepG P self o fi ro dst next loc tmp H D=kG fi ro dst next loc tmp D (aO P self (dC fi ⟨loc,tmp⟩) H o):=by
 rw [←UK,←jQ];obtain ⟨dst',op,type,pos,after,guard⟩:=o;cases op
 case load t a=>
  show QY P t a fi ro dst next loc tmp H D=kG fi ro dst next loc tmp D (qk P H t (bZ fi loc tmp a))
  unfold QY qk;cases bZ fi loc tmp a with
  |pointer p=>
   cases p with
   |none=>rfl
   |some ad=>
    obtain ⟨b,off,sp⟩:=ad;cases sp with
    |none=>
     simp only;cases Xh P H t b off<;>rfl
    |some _=>rfl
  |_=>rfl
 case binOp op t x y yt=>
  show Ww P op t x y yt fi ro dst next loc tmp H D=kG fi ro dst next loc tmp D (Pk P op t x y yt (bZ fi loc tmp) H)
  have key:∀ (f:IntKind->Int->Int->Value) (alt:Option ag) (a b:Value),s2 fi ro dst next loc tmp H D f alt a b=kG fi ro dst next loc tmp D (b2 f alt H a b):=by
   intro f alt a b;unfold s2 b2;split
   ·split<;>rfl
   ·rfl
  unfold Ww Pk;cases op<;>first |rfl |exact key _ _ _ _
 case call c=>
  obtain ⟨callee,args,ats⟩:=c;cases callee with
  |value f=>rfl
  |invoke r n=>rfl
  |builtin b=>
   show YM P args ats type fi ro dst next loc tmp H D b=kG fi ro dst next loc tmp D (bk P H b ats type (args.toList.map (bZ fi loc tmp)))
   unfold YM;split
   ·rename_i x hx
    rw [hx];unfold sLen;simp only [List.map_cons,List.map_nil,bk,SZ];cases ats[0]? with
    |none=>rfl
    |some t=>
     simp only;cases eD P H t (bZ fi loc tmp x)<;>rfl
   ·rfl
 all_goals rfl
end step
noncomputable def fW (P:Program) (self:Self) (fi:FI) (ro:Option Nat) (ops:Array Oper) (l:List Oper):Nx:=
 @List.rec Oper (fun _=>Nx) (fun loc tmp H D=>some (.normal,⟨loc,tmp⟩,H,D))
  (fun o _ ih loc tmp H D=>@Option.rec (Nat×Bool) (fun _=>eS) (stepG P self o fi ro o.dst ih loc tmp H D)
   (fun _=>gF none fi ops ⟨loc,tmp⟩ o (stepG P self o fi ro o.dst ih loc tmp H D) (uM fi o.dst ih loc tmp H D undef)) o.guard) l
noncomputable def R0 (P:Program) (self:Self) (fi:FI) (ro:Option Nat) (ops:Array Oper) (l:List Oper) (E:En):IH->List Deferred->eS:=fW P self fi ro ops l E.loc E.tmp
theorem Mo (P:Program) (self:Self) (fi:FI) (ro:Option Nat) (ops:Array Oper) (l:List Oper):∀ loc tmp H D,fW P self fi ro ops l loc tmp H D=c7 P self fi ro ops l ⟨loc,tmp⟩ H D:=by
 induction l with
 |nil=>intro loc tmp H D;rfl
 |cons o l ih=>
  intro loc tmp H D;have hn:fW P self fi ro ops l=fun l1 t1=>(fun E=>c7 P self fi ro ops l E) ⟨l1,t1⟩:=by
   funext l1 t1 H1 D1;exact ih l1 t1 H1 D1
  have hstep:stepG P self o fi ro o.dst (fW P self fi ro ops l) loc tmp H D=(match aO P self (dC fi ⟨loc,tmp⟩) H o with
    |some (.val v H)=>c7 P self fi ro ops l (c8 fi ⟨loc,tmp⟩ o.dst v) H D
    |some (.skip H)=>c7 P self fi ro ops l (c8 fi ⟨loc,tmp⟩ o.dst undef) H D
    |some (.defer d H)=>if ro.isNone then c7 P self fi ro ops l (c8 fi ⟨loc,tmp⟩ o.dst undef) H (d::D) else none
    |some (.panic v H)=>some (.panic v,⟨loc,tmp⟩,H,D)
    |none=>none):=by
   rw [Sn,hn];unfold kG;simp only [LX];cases aO P self (dC fi ⟨loc,tmp⟩) H o with
   |none=>rfl
   |some r=>cases r<;>rfl
  have hoff:uM fi o.dst (fW P self fi ro ops l) loc tmp H D undef=c7 P self fi ro ops l (c8 fi ⟨loc,tmp⟩ o.dst undef) H D:=by
   rw [hn,LX]
  show @Option.rec (Nat×Bool) (fun _=>eS) (stepG P self o fi ro o.dst (fW P self fi ro ops l) loc tmp H D)
   (fun _=>gF none fi ops ⟨loc,tmp⟩ o (stepG P self o fi ro o.dst (fW P self fi ro ops l) loc tmp H D) (uM fi o.dst (fW P self fi ro ops l) loc tmp H D undef)) o.guard=_
  have e:@Option.rec (Nat×Bool) (fun _=>eS) (stepG P self o fi ro o.dst (fW P self fi ro ops l) loc tmp H D)
   (fun _=>gF none fi ops ⟨loc,tmp⟩ o (stepG P self o fi ro o.dst (fW P self fi ro ops l) loc tmp H D) (uM fi o.dst (fW P self fi ro ops l) loc tmp H D undef)) o.guard=
    gF none fi ops ⟨loc,tmp⟩ o (stepG P self o fi ro o.dst (fW P self fi ro ops l) loc tmp H D) (uM fi o.dst (fW P self fi ro ops l) loc tmp H D undef):=by
   unfold gF;cases o.guard<;>rfl
  rw [e,U8,hstep,hoff]
  conv=>rhs;unfold c7
  rfl
theorem NO (P:Program) (self:Self) (fi:FI) (ro:Option Nat) (ops:Array Oper) (l:List Oper) (E:En) (H:IH) (D:List Deferred):R0 P self fi ro ops l E H D=c7 P self fi ro ops l E H D:=
 Mo P self fi ro ops l E.loc E.tmp H D
noncomputable def Vs (P:Program) (self:Self) (fi:FI) (_n0 _i:Nat) (o:Oper) (_m:Nat) (s:DS):DR:=
 match Br P self (GL fi s.T) s.H o with
 |some (.val v _)=> .done { s with T:=xj fi s.T o.dst v }
 |_=> .fail
noncomputable def mR (P:Program) (self:Self) (fi:FI) (T:En) (H:IH) (o:Oper) (v:Value):Bool:=
 match Br P self (GL fi T) H o with
 |some (.val v' _)=>ld v v'
 |_=>false
theorem xB (P:Program) (self:Self) (fi:FI) (T:En) (H:IH) (o:Oper) (v:Value):mR P self fi T H o v=sameAt P self fi T H o v:=by
 unfold mR sameAt zL;rw [jQ,ko];cases aO P self (dC fi T) H o with
 |none=>rfl
 |some r=>cases r<;>rfl
noncomputable def p8 (P:Program) (self:Self) (fi:FI) (T:En) (o:Oper) (v:Value) (m:Nat) (l:List (Nat×IH)):Bool:=
 @List.rec (Nat×IH) (fun _=>Bool) true (fun p _ ih=>@Bool.rec (fun _=>Bool) (@Bool.rec (fun _=>Bool) false ih (mR P self fi T p.2 o v)) ih (H6 m p.1)) l
theorem FB (P:Program) (self:Self) (fi:FI) (T:En) (o:Oper) (v:Value) (m:Nat) (l:List (Nat×IH)):p8 P self fi T o v m l=fJ P self fi T o v m l:=by
 induction l with
 |nil=>rfl
 |cons p l ih=>
  obtain ⟨c,Hc⟩:=p
  show @Bool.rec (fun _=>Bool) (@Bool.rec (fun _=>Bool) false (p8 P self fi T o v m l) (mR P self fi T Hc o v)) (p8 P self fi T o v m l) (H6 m c)=_
  rw [ih,xB,lO];simp only [fJ];cases m.testBit c<;>cases sameAt P self fi T Hc o v<;>rfl
noncomputable def l4 (P:Program) (self:Self) (fi:FI) (H:IH) (m:Nat) (l:List Rd):Bool:=
 @List.rec Rd (fun _=>Bool) true (fun r _ ih=>@Bool.rec (fun _=>Bool) (@Bool.rec (fun _=>Bool) false ih (mR P self fi r.T H r.o r.v)) ih (H6 m r.i)) l
theorem DG (P:Program) (self:Self) (fi:FI) (H:IH) (m:Nat) (l:List Rd):l4 P self fi H m l=gp P self fi H m l:=by
 induction l with
 |nil=>rfl
 |cons r l ih=>
  show @Bool.rec (fun _=>Bool) (@Bool.rec (fun _=>Bool) false (l4 P self fi H m l) (mR P self fi r.T H r.o r.v)) (l4 P self fi H m l) (H6 m r.i)=_
  rw [ih,xB,lO];simp only [gp];cases m.testBit r.i<;>cases sameAt P self fi r.T H r.o r.v<;>rfl
noncomputable def wx (m:Nat) (l:List (Nat×IH)):Bool:=@List.rec (Nat×IH) (fun _=>Bool) true (fun p _ ih=>@Bool.rec (fun _=>Bool) false ih (H6 m p.1)) l
theorem GX (m:Nat) (l:List (Nat×IH)):wx m l=chained m l:=by
 induction l with
 |nil=>rfl
 |cons p l ih=>
  obtain ⟨c,Hc⟩:=p
  show @Bool.rec (fun _=>Bool) false (wx m l) (H6 m c)=_
  rw [ih,lO];simp only [chained];cases m.testBit c<;>rfl
noncomputable def X8 (m:Nat) (l:List (Nat×bA)):List (Nat×bA):=@List.rec (Nat×bA) (fun _=>List (Nat×bA)) [] (fun p _ ih=>@Bool.rec (fun _=>List (Nat×bA)) ih (p::ih) (H6 m p.1)) l
theorem Wb (m:Nat) (l:List (Nat×bA)):X8 m l=l.filter fun x=>m.testBit x.1:=by
 induction l with
 |nil=>rfl
 |cons p l ih=>
  show @Bool.rec (fun _=>List (Nat×bA)) (X8 m l) (p::X8 m l) (H6 m p.1)=_
  rw [ih,lO,List.filter_cons];cases m.testBit p.1<;>rfl
noncomputable def Qm (m:Nat) (l:List (Nat×bA)):List (Nat×bA):=@List.rec (Nat×bA) (fun _=>List (Nat×bA)) [] (fun p _ ih=>@Bool.rec (fun _=>List (Nat×bA)) (p::ih) ih (H6 m p.1)) l
theorem Tu (m:Nat) (l:List (Nat×bA)):Qm m l=l.filter fun x=> !m.testBit x.1:=by
 induction l with
 |nil=>rfl
 |cons p l ih=>
  show @Bool.rec (fun _=>List (Nat×bA)) (p::Qm m l) (Qm m l) (H6 m p.1)=_
  rw [ih,lO,List.filter_cons];cases m.testBit p.1<;>rfl
noncomputable def Vb (P:Program) (self:Self) (fi:FI) (_n0 i:Nat) (o:Oper) (m:Nat) (s:DS):DR:=
 match Br P self (GL fi s.T) s.H o with
 |some (.val v _)=>@Bool.rec (fun _=>DR) .fail (.done { s with T:=xj fi s.T o.dst v,reads:=⟨i,o,s.T,v⟩::s.reads }) (p8 P self fi s.T o v m s.bR)
 |_=> .fail
noncomputable def RU (P:Program) (self:Self) (fi:FI) (n0 i:Nat) (o:Oper) (_m:Nat) (s:DS):DR:=
 match Br P self (GL fi s.T) { s.H with n:=n0+i } o with
 |some (.val v H')=>match H'.get (n0+i) with
  |some ob=> .done { s with T:=xj fi s.T o.dst v,bt:=(i,ob)::s.bt }
  |none=> .fail
 |_=> .fail
noncomputable def KA (P:Program) (self:Self) (fi:FI) (i:Nat) (dst:Option Tmp) (m:Nat) (s:DS) (r:Option ag):DR:=
 match r with
 |some (.val v H')=>@Bool.rec (fun _=>DR) .fail (.done { T:=xj fi s.T dst v,H:=H',bt:=Qm m s.bt,bR:=(i,s.H)::s.bR,reads:=s.reads }) (l4 P self fi H' m s.reads)
 |some (.skip H')=>@Bool.rec (fun _=>DR) .fail (.done { T:=xj fi s.T dst undef,H:=H',bt:=Qm m s.bt,bR:=(i,s.H)::s.bR,reads:=s.reads }) (l4 P self fi H' m s.reads)
 |some (.panic v H')=> .panic v H'
 |_=> .fail
noncomputable def Oq (P:Program) (self:Self) (fi:FI) (n0 i:Nat) (o:Oper) (m:Nat) (s:DS):DR:=
 @Bool.rec (fun _=>DR) .fail (KA P self fi i o.dst m s (Br P self (GL fi s.T) (au n0 (X8 m s.bt) s.H) o)) (wx m s.bR)
noncomputable def iy (P:Program) (self:Self) (fi:FI) (ops:Array Oper) (n0 i:Nat) (o:Oper) (m:Nat) (s:DS):DR:=
 gF .fail fi ops s.T o (@Kind.rec (fun _=>Program->Self->FI->Nat->Nat->Oper->Nat->DS->DR) Vs Vb RU Oq (kindOf P o) P self fi n0 i o m s) (.done { s with T:=xj fi s.T o.dst undef })
theorem kL {R:Type} (b:Bool) (x y:R):@Bool.rec (fun _=>R) y x b=if b=true then x else y:=by cases b<;>rfl
theorem qN (P:Program) (self:Self) (fi:FI) (ops:Array Oper) (n0 i:Nat) (o:Oper) (m:Nat) (s:DS):iy P self fi ops n0 i o m s=dH P self fi ops n0 i o m s:=by
 unfold iy dH;rw [U8];split
 ·rename_i hw
  rw [hw];simp only;cases hk:kindOf P o with
  |pure=>
   simp only [Vs,jQ,ko,lW];cases aO P self (dC fi s.T) s.H o with
   |none=>rfl
   |some r=>cases r<;>rfl
  |read=>
   simp only [Vb,jQ,ko,lW,kL,FB];cases aO P self (dC fi s.T) s.H o with
   |none=>rfl
   |some r=>cases r<;>rfl
  |fresh=>
   simp only [RU,jQ,ko,lW];cases aO P self (dC fi s.T) { s.H with n:=n0+i } o with
   |none=>rfl
   |some r=>cases r<;>rfl
  |chain=>
   simp only [Oq,KA,jQ,ko,lW,kL,DG,Wb,Tu,GX];cases chained m s.bR with
   |false=>rfl
   |true=>
    simp only [if_true];cases aO P self (dC fi s.T) (au n0 (s.bt.filter fun x=>m.testBit x.1) s.H) o with
    |none=>rfl
    |some r=>cases r<;>rfl
 ·rename_i hw;rw [hw];simp only [lW]
 ·rename_i hw;rw [hw]
noncomputable def R5 (next:Nat->List Nat->DS->Option (Nat×Value×IH)->DR) (i:Nat) (ms:List Nat) (s:DS) (r:DR):DR:=
 @DR.rec (fun _=>DR) (fun s'=>next (i+1) ms s' none) (fun v H=>next (i+1) ms { s with bR:=(i,s.H)::s.bR } (some (i,v,H))) .fail r
noncomputable def BQ (next:Nat->List Nat->DS->Option (Nat×Value×IH)->DR) (i:Nat) (ms:List Nat) (px:Nat×Value×IH) (r:DR):DR:=
 match r with
 | .done s'=>next (i+1) ms s' (some px)
 |_=> .fail
noncomputable def Y2 (s:DS) (px:Option (Nat×Value×IH)):DR:=
 match px with
 |none=> .done s
 |some (_,v,H)=> .panic v H
noncomputable def iJ (P:Program) (self:Self) (fi:FI) (ops:Array Oper) (n0:Nat) (l:List Oper):Nat->List Nat->DS->Option (Nat×Value×IH)->DR:=
 @List.rec Oper (fun _=>Nat->List Nat->DS->Option (Nat×Value×IH)->DR) (fun _ _ s px=>Y2 s px)
  (fun o _ ih i ms s px=>@List.rec Nat (fun _=>DR) .fail (fun m ms _=>@Option.rec (Nat×Value×IH) (fun _=>DR) (R5 ih i ms s (iy P self fi ops n0 i o m s))
   (fun px=>@Bool.rec (fun _=>DR) (BQ ih i ms px (iy P self fi ops n0 i o m s)) (ih (i+1) ms s (some px)) (H6 m px.1)) px) ms) l
theorem yM (P:Program) (self:Self) (fi:FI) (ops:Array Oper) (n0:Nat) (l:List Oper):∀ i ms s px,iJ P self fi ops n0 l i ms s px=aU P self fi ops n0 l i ms s px:=by
 induction l with
 |nil=>intro i ms s px;cases px<;>rfl
 |cons o l ih=>
  intro i ms s px;cases ms with
  |nil=>cases px<;>rfl
  |cons m ms=>
   cases px with
   |none=>
    show R5 (iJ P self fi ops n0 l) i ms s (iy P self fi ops n0 i o m s)=_
    rw [qN];unfold aU R5;cases dH P self fi ops n0 i o m s with
    |done s'=>exact ih _ _ _ _
    |panic v H=>exact ih _ _ _ _
    |fail=>rfl
   |some px=>
    obtain ⟨c,v,H⟩:=px
    show @Bool.rec (fun _=>DR) (BQ (iJ P self fi ops n0 l) i ms (c,v,H) (iy P self fi ops n0 i o m s)) (iJ P self fi ops n0 l (i+1) ms s (some (c,v,H))) (H6 m c)=_
    rw [qN,ih,lO];unfold BQ
    conv=>rhs;unfold aU
    cases m.testBit c with
    |true=>rfl
    |false=>
     cases dH P self fi ops n0 i o m s with
     |done s'=>exact ih _ _ _ _
     |panic v H=>rfl
     |fail=>rfl
noncomputable def TM {α:Type} (l:List α):(Nat->α->Bool)->Nat->Bool:=@List.rec α (fun _=>(Nat->α->Bool)->Nat->Bool) (fun _ _=>true) (fun a _ ih p i=>@Bool.rec (fun _=>Bool) false (ih p (Nat.succ i)) (p i a)) l
theorem Le {α:Type} (p:Nat->α->Bool) (d:Bool) (l:List α):∀ k,TM l p k=(List.range l.length).all (fun i=>(l[i]?).elim d (p (k+i))):=by
 induction l with
 |nil=>intro k;rfl
 |cons a l ih=>
  intro k
  show @Bool.rec (fun _=>Bool) false (TM l p (k+1)) (p k a)=_
  rw [ih,zad,List.range_succ_eq_map,List.all_cons,List.all_map];have e:((fun i=>((a::l)[i]?).elim d (p (k+i)))∘Nat.succ)=fun i=>(l[i]?).elim d (p (k+1+i)):=by
   funext i;simp only [Function.comp_apply,List.getElem?_cons_succ];cases l[i]? with
   |none=>rfl
   |some x=>simp only [Nat.succ_eq_add_one,Option.elim];congr 1;omega
  rw [e];simp only [List.getElem?_cons_zero,Nat.add_zero,Option.elim];cases p k a<;>rfl
theorem VS (a b:Nat):Nat.beq a b=(a==b):=by
 rw [Bool.eq_iff_iff,Nat.beq_eq];simp
noncomputable def XA (x:Option Tmp) (t:Nat):Bool:=@Option.rec Nat (fun _=>Bool) false (fun u=>Nat.beq u t) x
theorem TO (x:Option Tmp) (t:Nat):XA x t=(x==some t):=by
 cases x with
 |none=>rfl
 |some u=>exact VS u t
noncomputable def OI (ms looks:List Nat) (d:Option Tmp) (m i j t:Nat):Bool:=
 @Bool.rec (fun _=>Bool) false
  (@Bool.rec (fun _=>Bool) (@Bool.rec (fun _=>Bool) (@Bool.rec (fun _=>Bool) true false (N6 looks t)) true (H6 (@Option.rec Nat (fun _=>Nat) 0 (fun n=>n) (R9 ms j)) i)) true (H6 m j))
  (@Bool.rec (fun _=>Bool) (@Bool.rec (fun _=>Bool) true false (XA d t)) true (Nat.beq j i))
noncomputable def Qo (ms looks:List Nat) (d:Option Tmp) (m i j:Nat) (oj:Oper):Bool:=@Option.rec Nat (fun _=>Bool) true (OI ms looks d m i j) oj.dst
noncomputable def Q9 (i:Nat) (l:List Edge):Bool:=@List.rec Edge (fun _=>Bool) true (fun e _ ih=>@Bool.rec (fun _=>Bool) false ih (@Bool.rec (fun _=>Bool) true (Nat.ble (Nat.succ e.on) i) (Region.binds .any e))) l
noncomputable def Vf (ops:Array Oper) (ms:List Nat) (i:Nat) (o:Oper):Bool:=
 @Option.rec Nat (fun _=>Bool) false (fun m=>@Bool.rec (fun _=>Bool) false (TM ops.toList (Qo ms (o.looksAt ops) o.dst m i) 0) (Q9 i o.after.toList)) (R9 ms i)
noncomputable def rA (ops:Array Oper) (ms:List Nat):Bool:=TM ops.toList (Vf ops ms) 0
theorem zD (l:List Nat) (t:Nat):N6 l t=l.contains t:=by
 induction l with
 |nil=>rfl
 |cons k l ih=>
  show @Bool.rec (fun _=>Bool) (N6 l t) true (Nat.beq k t)=_
  rw [ih,List.contains_cons];have:Nat.beq k t=(t==k):=by
   rw [VS];exact Bool.beq_comm
  rw [this];cases t==k<;>rfl
theorem B4 (ops:Array Oper) (ms:List Nat):rA ops ms=jT ops ms:=by
 unfold rA jT;rw [Le _ false ops.toList 0];have hsz:ops.toList.length=ops.size:=Array.length_toList;rw [hsz]
 congr 1
 funext i;rw [←Array.getElem?_toList];cases ho:ops.toList[i]? with
 |none=>rfl
 |some o=>
  simp only [Nat.zero_add,Option.elim];unfold Vf;rw [CF];cases hm:ms[i]? with
  |none=>rfl
  |some m=>
   simp only;have hback:∀ l:List Edge,Q9 i l=l.all (fun e=> !Region.binds .any e ||decide (e.on<i)):=by
    intro l
    induction l with
    |nil=>rfl
    |cons e l ih=>
     show @Bool.rec (fun _=>Bool) false (Q9 i l) (@Bool.rec (fun _=>Bool) true (Nat.ble (Nat.succ e.on) i) (Region.binds .any e))=_
     rw [ih,oK,List.all_cons];have:decide (Nat.succ e.on<=i)=decide (e.on<i):=rfl;rw [this];cases Region.binds .any e<;>cases decide (e.on<i)<;>rfl
   rw [hback,Le _ true ops.toList 0,hsz]
   have hin:(List.range ops.size).all (fun j=>(ops.toList[j]?).elim true (Qo ms (o.looksAt ops) o.dst m i (0+j)))=
     (List.range ops.size).all fun j=>match ops[j]? with
      |some oj=>match oj.dst with
       |none=>true
       |some t=>(j==i ||o.dst !=some t) &&(m.testBit j ||(ms.getD j 0).testBit i || !(o.looksAt ops).contains t)
      |none=>true:=by
    congr 1
    funext j;rw [←Array.getElem?_toList];cases ops.toList[j]? with
    |none=>rfl
    |some oj=>
     simp only [Nat.zero_add,Option.elim];unfold Qo;cases oj.dst with
     |none=>rfl
     |some t=>
      show OI ms (o.looksAt ops) o.dst m i j t=_
      unfold OI;rw [CF,lO,lO,zD,TO];have hg:(@Option.rec Nat (fun _=>Nat) 0 (fun n=>n) ms[j]?)=ms.getD j 0:=by
       rw [List.getD_eq_getElem?_getD];cases ms[j]? <;>rfl
      rw [hg];have hj:Nat.beq j i=(j==i):=VS j i;rw [hj];simp only [bne];cases (j==i)<;>cases (o.dst==some t)<;>cases m.testBit j<;>cases (ms.getD j 0).testBit i<;>cases (o.looksAt ops).contains t<;>rfl
   refine (congrArg (fun b=>@Bool.rec (fun _=>Bool) false b (o.after.toList.all fun e=> !Region.binds .any e ||decide (e.on<i))) hin).trans ?_;cases o.after.toList.all (fun e=> !Region.binds .any e ||decide (e.on<i))<;>rfl
noncomputable def KN (fi:FI) (ops:Array Oper) (T:En) (n0:Nat) (D:List Deferred) (r:DR):eS:=
 @DR.rec (fun _=>eS) (fun s=>some (.normal,s.T,au n0 s.bt s.H,D)) (fun v H=>some (.panic v,gf fi ops.toList T,H,D)) none r
noncomputable def C2 (P:Program) (self:Self) (fi:FI) (ops:Array Oper) (T:En) (H:IH) (D:List Deferred):eS:=
 @Bool.rec (fun _=>eS) none (KN fi ops T H.n D (iJ P self fi ops H.n ops.toList 0 (cX ops.toList []) ⟨T,{ H with n:=H.n+fV P ops },[],[],[]⟩ none)) (rA ops (cX ops.toList []))
theorem J4 (P:Program) (self:Self) (fi:FI) (ops:Array Oper) (T:En) (H:IH) (D:List Deferred):C2 P self fi ops T H D=lI P self fi ops T H D:=by
 unfold C2 lI KN;rw [yM,kL,B4];simp only;split
 ·cases aU P self fi ops H.n ops.toList 0 (cX ops.toList []) ⟨T,{ H with n:=H.n+fV P ops },[],[],[]⟩ none<;>rfl
 ·rfl
noncomputable def WX (xn:En->IH->List Deferred->eS) (r:eS):eS:=
 @Option.rec (X×En×IH×List Deferred) (fun _=>eS) none (fun p=>@Prod.rec X (En×IH×List Deferred) (fun _=>eS) (fun x p=>@X.rec (fun _=>eS) (xn p.1 p.2.1 p.2.2) (fun id=>some (.exit id,p)) (some (.ret,p)) (fun v=>some (.panic v,p)) x) p) r
theorem PC (xn:En->IH->List Deferred->eS) (r:eS):WX xn r=(match r with |some (.normal,T,H,D)=>xn T H D |r=>r):=by
 cases r with
 |none=>rfl
 |some p=>obtain ⟨x,T,H,D⟩:=p;cases x<;>rfl
noncomputable def Pf (id:Nat) (r:eS):eS:=
 @Option.rec (X×En×IH×List Deferred) (fun _=>eS) none (fun p=>@Prod.rec X (En×IH×List Deferred) (fun _=>eS) (fun x p=>@X.rec (fun _=>eS) (some (.normal,p)) (fun j=>@Bool.rec (fun _=>eS) (some (.exit j,p)) (some (.normal,p)) (Nat.beq j id)) (some (.ret,p)) (fun v=>some (.panic v,p)) x) p) r
theorem Rq (id:Nat) (r:eS):Pf id r=(match r with |some (.exit j,T,H,D)=>if j=id then some (.normal,T,H,D) else some (.exit j,T,H,D) |r=>r):=by
 cases r with
 |none=>rfl
 |some p=>
  obtain ⟨x,T,H,D⟩:=p;cases x with
  |exit j=>
   show @Bool.rec (fun _=>eS) (some (.exit j,T,H,D)) (some (.normal,T,H,D)) (Nat.beq j id)=_
   cases hb:Nat.beq j id with
   |true=>simp [Nat.eq_of_beq_eq_true hb]
   |false=>simp [Nat.ne_of_beq_eq_false hb]
  |_=>rfl
noncomputable def Yh (a b:En->IH->List Deferred->eS) (T:En) (H:IH) (D:List Deferred) (v:Value):eS:=
 match v with
 | .bool c=>@Bool.rec (fun _=>eS) (b T H D) (a T H D) c
 |_=>none
noncomputable def gm (P:Program) (self:Self) (fi:FI) (ro:Option Nat) (c:Code):En->IH->List Deferred->eS:=
 @Code.rec (fun _=>En->IH->List Deferred->eS)
  (fun T H D=>some (.normal,T,H,D))
  (fun _ ops d T H D=>@Bool.rec (fun _=>eS) (R0 P self fi ro ops ops.toList T.reset H D) (C2 P self fi ops T.reset H D) d)
  (fun _ _ ia ib T H D=>WX ib (ia T H D))
  (fun c _ _ ia ib T H D=>Yh ia ib T H D (GL fi T c))
  (fun id _ ic T H D=>Pf id (ic T H D))
  (fun c ic T H D=>WX (self.code fi ro (.loop c)) (ic T H D))
  (fun f ps dZ body _ _ T H D=>aA P self fi ro (.rangeFunc f ps dZ body) T H D)
  (fun id T H D=>some (.exit id,T,H,D))
  (fun _ ic T H D=>ic T H D)
  (fun _ T H D=>some (.normal,T,H,D))
  (fun _ _ _ _=>none)
  (fun T H D=>some (.ret,T,H,D))
  (fun _ _ _ _=>none) c
theorem ym (P:Program) (self:Self) (fi:FI) (ro:Option Nat) (c:Code):∀ T H D,gm P self fi ro c T H D=aA P self fi ro c T H D:=by
 induction c with
 |skip=>intro T H D;rfl
 |region id ops d=>
  intro T H D;cases d with
  |false=>exact NO P self fi ro ops ops.toList T.reset H D
  |true=>exact J4 P self fi ops T.reset H D
 |seq a b iha ihb=>
  intro T H D
  show WX (gm P self fi ro b) (gm P self fi ro a T H D)=_
  rw [PC,iha]
  conv=>rhs;unfold aA
  cases aA P self fi ro a T H D with
  |none=>rfl
  |some p=>
   obtain ⟨x,T,H,D⟩:=p;cases x with
   |normal=>exact ihb T H D
   |_=>rfl
 |cond c a b iha ihb=>
  intro T H D
  show Yh (gm P self fi ro a) (gm P self fi ro b) T H D (GL fi T c)=_
  rw [ko];unfold Yh
  conv=>rhs;unfold aA
  cases dC fi T c with
  |bool x=>cases x with
   |true=>exact iha T H D
   |false=>exact ihb T H D
  |_=>rfl
 |block id c ih=>
  intro T H D
  show Pf id (gm P self fi ro c T H D)=_
  rw [Rq,ih]
  conv=>rhs;unfold aA
  rfl
 |loop c ih=>
  intro T H D
  show WX (self.code fi ro (.loop c)) (gm P self fi ro c T H D)=_
  rw [PC,ih]
  conv=>rhs;unfold aA
  rfl
 |rangeFunc f ps dZ body _ _=>intro T H D;rfl
 |exit id=>intro T H D;rfl
 |scope c ih=>intro T H D;exact ih T H D
 |label l=>intro T H D;rfl
 |goto l=>intro T H D;rfl
 |ret=>intro T H D;rfl
 |refuse s=>intro T H D;rfl
noncomputable def PX (P:Program) (hint:Hint) (self:Self) (fi:FI) (fn:Func) (x:X) (p:En×IH×List Deferred):Option (End×IH):=
 @X.rec (fun _=>Option (End×IH)) (b8 P hint self fi fn p.1 p.2.2 .returning p.2.1) (fun _=>none) (b8 P hint self fi fn p.1 p.2.2 .returning p.2.1) (fun v=>b8 P hint self fi fn p.1 p.2.2 (.panicking v false) p.2.1) x
noncomputable def OP (P:Program) (hint:Hint) (self:Self) (fi:FI) (fn:Func) (r:eS):Option (End×IH):=
 @Option.rec (X×En×IH×List Deferred) (fun _=>Option (End×IH)) none (fun p=>PX P hint self fi fn p.1 p.2) r
noncomputable def Va (P:Program) (hint:Hint) (self:Self) (f:FuncId) (args:List Value) (H:IH) (fn:Func) (c:Code):Option (End×IH):=
 @Bool.rec (fun _=>Option (End×IH)) none (OP P hint self (cQ hint f fn) fn (gm P self (cQ hint f fn) none c (eA args) H [])) (fits fn args)
noncomputable def CM (P:Program) (hint:Hint) (self:Self) (f:FuncId) (args:List Value) (H:IH):Option (End×IH):=
 @Option.rec Func (fun _=>Option (End×IH)) none (fun fn=>@Option.rec Code (fun _=>Option (End×IH)) none (Va P hint self f args H fn) fn.body) P.funcs[f]?
theorem HG (P:Program) (hint:Hint) (self:Self) (f:FuncId) (args:List Value) (H:IH):CM P hint self f args H=cb P hint self f args H:=by
 unfold CM cb;cases P.funcs[f]? with
 |none=>rfl
 |some fn=>
  simp only;cases fn.body with
  |none=>rfl
  |some c=>
   simp only [Va,kL,ym];split
   ·unfold OP PX
    cases aA P self (cQ hint f fn) none c (eA args) H [] with
    |none=>rfl
    |some p=>obtain ⟨x,T,H,D⟩:=p;cases x<;>rfl
   ·rfl
noncomputable def qj (P:Program) (hint:Hint) (spec:Spec) (self:Self) (f:FuncId) (args:List Value) (H:IH):Option (End×IH):=
 @Option.rec (End×IH) (fun _=>Option (End×IH)) (CM P hint self f args H) some (spec f args H)
theorem GD (P:Program) (hint:Hint) (spec:Spec) (self:Self) (f:FuncId) (args:List Value) (H:IH):qj P hint spec self f args H=di P hint spec self f args H:=by
 unfold qj di;cases spec f args H with
 |none=>exact HG P hint self f args H
 |some r=>rfl
noncomputable def Xp (P:Program) (hint:Hint) (spec:Spec) (n:Nat):Self:=
 @Nat.rec (fun _=>Self) ⟨fun _ _ _ _ _ _=>none,fun _ _ _=>none⟩ (fun _ s=>⟨gm P s,qj P hint spec s⟩) n
theorem VG (P:Program) (hint:Hint) (spec:Spec):∀ n,Xp P hint spec n=ev P hint spec n:=by
 intro n
 induction n with
 |zero=>rfl
 |succ n ih=>
  show Self.mk (gm P (Xp P hint spec n)) (qj P hint spec (Xp P hint spec n))=⟨aA P (ev P hint spec n),di P hint spec (ev P hint spec n)⟩
  rw [ih]
  congr 1
  ·funext fi ro c T H D;exact ym P _ fi ro c T H D
  ·funext f args H;exact GD P hint spec _ f args H
end Go.Iv
