/- The same evaluator in a form that the kernel runs fast: each choice by the type's own recursor, each branch a small closed piece. -/
import Derived.Test.YtnidajnmgfbieaaGreatDoorIvFastA
set_option linter.unusedSimpArgs false
set_option linter.unusedVariables false
namespace Go.Iv
open Go
noncomputable def o5 (H:IH) (r:Option (List Value)):Option aa:=@Option.rec (List Value) (fun _=>Option aa) none (fun l=>some (.val (.agg ⟨l⟩) H)) r
noncomputable def mr (P:Program) (H:IH) (t:TypeId) (ps:List (Nat×Value)) (z:Value):Option aa:=
 match P.underlying t with
 |some (.struct fs)=>match placesOf P fs.toList with
  |some places=>o5 H (dm (fun i=>places[i]?) z.cells.size ps z.cells.toList)
  |none=>none
 |some (.array _ e)=>match P.info? e with
  |some i=>o5 H (dm (fun j=>some (j*i.size,i.size)) z.cells.size ps z.cells.toList)
  |none=>none
 |_=>none
noncomputable def fL (P:Program) (H:IH) (t:TypeId) (ps:List (Nat×Value)):Option aa:=
 @Bool.rec (fun _=>Option aa) none (@Option.rec Value (fun _=>Option aa) none (mr P H t ps) (zeroOf P t)) (ps.all fun p=>nC p.2)
theorem jG (P:Program) (H:IH) (t:TypeId) (ps:List (Nat×Value)):fL P H t ps=cT P H t ps:=by
 have agg:∀ (pl:Nat->Option (Nat×Nat)) (cs:Array Value),o5 H (dm pl cs.size ps cs.toList)=(match Instr.fill pl cs ps with |some cells=>some (.val (.agg cells) H) |none=>none):=by
  intro pl cs;rw [fill_eq];cases dm pl cs.size ps cs.toList<;>rfl
 unfold fL cT;cases ps.all fun p=>nC p.2 with
 |false=>rfl
 |true=>
  simp only [if_true];cases zeroOf P t with
  |none=>rfl
  |some z=>
   simp only [mr];cases P.underlying t with
   |none=>rfl
   |some d=>
    cases d with
    |struct fs=>
     simp only;cases placesOf P fs.toList with
     |none=>rfl
     |some places=>simp only;rw [agg];rfl
    |array n e=>
     simp only;cases P.info? e with
     |none=>rfl
     |some i=>simp only;rw [agg];rfl
    |_=>rfl
noncomputable def qR (H:IH) (e:TypeId) (len:Nat) (r:Option (List Value)):Option aa:=@Option.rec (List Value) (fun _=>Option aa) none (fun l=>some (.val (.slice (some ⟨H.n,0,none⟩) len len) (aX H e l))) r
noncomputable def cE (P:Program) (H:IH) (t:TypeId) (len:Nat) (ps:List (Nat×Value)):Option aa:=
 match bB P t with
 |some (e,i)=>
  if len*(i.size+1)<=2^24 &&ps.all (fun p=>nC p.2) then
   match zeroOf P e with
   |some z=>
    if z.cells.size=i.size then qR H e len (dm (fun j=>some (j*i.size,i.size)) (cJ z.cells.toList len).length ps (cJ z.cells.toList len)) else none
   |none=>none
  else none
 |none=>none
theorem eX (P:Program) (H:IH) (t:TypeId) (len:Nat) (ps:List (Nat×Value)):cE P H t len ps=aT P H t len ps:=by
 have slc:∀ (pl:Nat->Option (Nat×Nat)) (e:TypeId) (cs:List Value),qR H e len (dm pl cs.length ps cs)=(match Instr.fill pl ⟨cs⟩ ps with |some cells=>some (aa.val (.slice (some ⟨H.n,0,none⟩) len len) (aX H e cells.toList)) |none=>none):=by
  intro pl e cs;rw [fill_eq]
  show _=(match (dm pl cs.length ps cs).map fun l=>(⟨l⟩:Array Value) with |some cells=>some (aa.val (.slice (some ⟨H.n,0,none⟩) len len) (aX H e cells.toList)) |none=>none)
  cases dm pl cs.length ps cs<;>rfl
 unfold cE aT;cases bB P t with
 |none=>rfl
 |some ei=>
  obtain ⟨e,i⟩:=ei;simp only;split
  ·cases zeroOf P e with
   |none=>rfl
   |some z=>
    simp only;split
    ·exact slc _ _ _
    ·rfl
  ·rfl
noncomputable def kE (n off:Nat) (o:Option av):Option (List Value):=
 match o with
 |some (.cells cs _ _ _ _)=>lZ n (my off cs)
 |_=>none
theorem k8 (H:IH) (b off n:Nat) (hn:n≠0):kE n off (H.get b)=H.aR b off n:=by
 unfold kE IH.aR;cases H.get b with
 |none=>rfl
 |some o=>
  cases o with
  |cells cs e fz ex sh=>
   simp only;rw [mw,mn];by_cases h:off+n<=cs.length
   ·rw [if_pos (by simp;omega),if_pos h]
   ·rw [if_neg (by simp;omega),if_neg h]
  |_=>rfl
noncomputable def oF (off:Nat) (o:Option av):Option Value:=
 match o with
 |some (.cells cs _ _ _ _)=>lY cs off
 |_=>none
noncomputable def qJ (r:Option (List Value)):Option Value:=@Option.rec (List Value) (fun _=>Option Value) none (fun l=>some (.agg ⟨l⟩)) r
noncomputable def qZ (P:Program) (H:IH) (t:TypeId) (b off:Nat):Option Value:=
 match dd P t with
 |some true=>match P.info? t with
  |some i=>@Bool.rec (fun _=>Option Value) (qJ (kE i.size off (H.get b))) (fh P H t b off) (Nat.beq i.size 0)
  |none=>none
 |some false=>oF off (H.get b)
 |none=>none
theorem p2 (P:Program) (H:IH) (t:TypeId) (b off:Nat):qZ P H t b off=fh P H t b off:=by
 unfold qZ fh;cases dd P t with
 |none=>rfl
 |some x=>
  cases x with
  |true=>
   simp only;cases P.info? t with
   |none=>rfl
   |some i=>
    simp only;cases hz:Nat.beq i.size 0 with
    |true=>rfl
    |false=>
     simp only;rw [k8 H b off i.size (Nat.ne_of_beq_eq_false hz)];unfold qJ;cases H.aR b off i.size<;>rfl
  |false=>
   simp only;unfold oF;cases H.get b with
   |none=>rfl
   |some o=>
    cases o with
    |cells cs e fz ex sh=>exact je cs off
    |_=>rfl
noncomputable def ov (H:IH) (b:Nat) (e:TypeId) (fz:Nat) (ex sh:Bool) (r:Option (List Value)):Option IH:=@Option.rec (List Value) (fun _=>Option IH) none (fun cs=>some (H.put b (.cells cs e fz ex sh))) r
noncomputable def q6 (H:IH) (b off:Nat) (v:Value):Option IH:=
 match H.get b with
 |some (.cells cs e fz ex sh)=>@Bool.rec (fun _=>Option IH) none (ov H b e fz ex sh (pb off v cs)) (mo (Nat.ble c9 b) (mo (Nat.ble fz off) (one v)))
 |_=>none
theorem dP (a b:Nat):Nat.ble a b=decide (a<=b):=by
 cases h:Nat.ble a b with
 |true=>exact (decide_eq_true (Nat.le_of_ble_eq_true h)).symm
 |false=>exact (decide_eq_false fun x=>by rw [Nat.ble_eq_true_of_le x] at h;cases h).symm
theorem pj (H:IH) (b off:Nat) (v:Value):q6 H b off v=H.bZ b off [v]:=by
 unfold q6 IH.bZ;simp only [List.isEmpty_cons,Bool.false_eq_true,if_false];cases H.get b with
 |none=>rfl
 |some o=>
  cases o with
  |cells cs e fz ex sh=>
   simp only [kT,dP,ni,ov,List.length_singleton,List.all_cons,List.all_nil,Bool.and_true];by_cases h1:c9<=b<;>by_cases h2:fz<=off<;>by_cases h3:off+1<=cs.length<;>cases one v<;>simp [h1,h2,h3]
  |_=>rfl
noncomputable def hB (r:Option IH):Option aa:=@Option.rec IH (fun _=>Option aa) none (fun H=>some (.skip H)) r
noncomputable def ra (P:Program) (H:IH) (t:TypeId) (v:Value) (b off:Nat):Option aa:=
 match dd P t with
 |some false=>match P.info? t,v with
  |some i,.agg cs=>hB (if cs.size=i.size then H.bZ b off cs.toList else none)
  |some i,v=>@Bool.rec (fun _=>Option aa) none (hB (q6 H b off v)) (Nat.beq i.size 1)
  |none,_=>none
 |_=>hB (dM P H t b off v)
theorem pq (P:Program) (H:IH) (t:TypeId) (v:Value) (b off:Nat):ra P H t v b off=(match dM P H t b off v with |some H=>some (.skip H) |none=>none):=by
 have sk:∀ r:Option IH,hB r=(match r with |some H=>some (.skip H) |none=>none):=fun r=>by cases r<;>rfl
 have one_:∀ (i:TypeInfo) (v:Value),P.info? t=some i->v.cells=#[v]->@Bool.rec (fun _=>Option aa) none (hB (q6 H b off v)) (Nat.beq i.size 1)=(match dM P H t b off v with |some H=>some (.skip H) |none=>none):=by
  intro i v hi hc;unfold dM;rw [hi];simp only [hc,pj,sk];cases hz:Nat.beq i.size 1 with
  |true=>
   have:=Nat.eq_of_beq_eq_true hz;rw [if_pos (by simpa using this.symm)]
  |false=>
   have:=Nat.ne_of_beq_eq_false hz;rw [if_neg (by simpa using fun e:1=i.size=>this e.symm)]
 unfold ra;cases dd P t with
 |none=>exact sk _
 |some x=>
  cases x with
  |true=>exact sk _
  |false=>
   simp only;cases hi:P.info? t with
   |none=>
    have:dM P H t b off v=none:=by unfold dM;rw [hi]
    rw [this]
   |some i=>
    cases v with
    |agg cs=>
     show hB _=_
     rw [sk];unfold dM;rw [hi];rfl
    |_=>exact one_ i _ hi rfl
noncomputable def eu (P:Program) (H:IH) (t:TypeId) (a:Value):Option aa:=
 match a with
 | .pointer (some ⟨b,off,none⟩)=>@Option.rec Value (fun _=>Option aa) none (fun v=>some (.val v H)) (qZ P H t b off)
 |_=>none
theorem kF (P:Program) (H:IH) (t:TypeId) (a:Value):eu P H t a=dO P H t a:=by
 unfold eu dO;cases a with
 |pointer p=>
  cases p with
  |none=>rfl
  |some ad=>
   obtain ⟨b,off,sp⟩:=ad;cases sp with
   |none=>simp only;rw [p2];cases fh P H t b off<;>rfl
   |some _=>rfl
 |_=>rfl
noncomputable def gm (P:Program) (H:IH) (t:TypeId) (a v:Value):Option aa:=
 match a with
 | .pointer (some ⟨b,off,none⟩)=>ra P H t v b off
 |_=>none
theorem j6 (P:Program) (H:IH) (t:TypeId) (a v:Value):gm P H t a v=eg P H t a v:=by
 unfold gm eg;cases a with
 |pointer p=>
  cases p with
  |none=>rfl
  |some ad=>
   obtain ⟨b,off,sp⟩:=ad;cases sp with
   |none=>exact pq P H t v b off
   |some _=>rfl
 |_=>rfl
noncomputable def l4 (i:Int) (n:Nat):Option Nat:=@Int.rec (fun _=>Option Nat) (fun a=>@Bool.rec (fun _=>Option Nat) none (some a) (Nat.ble (Nat.succ a) n)) (fun _=>none) i
theorem n3 (i:Int) (n:Nat):l4 i n=if 0<=i &&i<(n:Int) then some i.toNat else none:=by
 cases i with
 |ofNat a=>
  show @Bool.rec (fun _=>Option Nat) none (some a) (Nat.ble (Nat.succ a) n)=_
  rw [dP];by_cases h:a<n
  ·rw [decide_eq_true (show Nat.succ a<=n from h)];simp [h]
  ·rw [decide_eq_false (show ¬ Nat.succ a<=n from h)];simp [h]
 |negSucc a=>simp [l4]
noncomputable def mS (H:IH) (b off size:Nat) (r:Option Nat):Option aa:=@Option.rec Nat (fun _=>Option aa) none (fun i=>some (.val (.pointer (some ⟨b,Nat.add off (Nat.mul i size),none⟩)) H)) r
noncomputable def cY (P:Program) (H:IH) (t:TypeId) (x ix:Value):Option aa:=
 match P.underlying t,x,ix with
 |some (.array n e),.pointer (some ⟨b,off,none⟩),.int _ i=>match P.info? e with
  |some inf=>mS H b off inf.size (l4 i n)
  |none=>none
 |some (.slice e),.slice (some ⟨b,off,none⟩) len _,.int _ i=>match P.info? e with
  |some inf=>mS H b off inf.size (l4 i len)
  |none=>none
 |_,_,_=>none
theorem fA (P:Program) (H:IH) (t:TypeId) (x ix:Value):cY P H t x ix=a8 P H t x ix:=by
 have pt:∀ (b off size n:Nat) (i:Int),mS H b off size (l4 i n)=if 0<=i &&i<(n:Int) then some (.val (.pointer (some ⟨b,off+i.toNat*size,none⟩)) H) else none:=by
  intro b off size n i;rw [n3];split<;>rfl
 unfold cY a8;simp only [pt];rfl
section ops
variable (P:Program) (self:Self)
noncomputable def gH (_:Operand->Value) (_:IH):Option aa:=none
noncomputable def oH (x:Operand) (Z:Operand->Value) (H:IH):Option aa:=some (.val (Z x) H)
noncomputable def oJ (c a b:Operand) (Z:Operand->Value) (H:IH):Option aa:=e6 H (Z c) (Z a) (Z b)
noncomputable def m4 (e:TypeId) (_:Operand->Value) (H:IH):Option aa:=c0 P H e
noncomputable def qF (e:TypeId) (x:Operand) (Z:Operand->Value) (H:IH):Option aa:=gC H e (Z x)
noncomputable def lO (t:TypeId) (parts:Array (Nat×Operand)) (Z:Operand->Value) (H:IH):Option aa:=fL P H t (parts.toList.map fun p=>(p.1,Z p.2))
noncomputable def fb (t:TypeId) (len:Nat) (parts:Array (Nat×Operand)) (Z:Operand->Value) (H:IH):Option aa:=cE P H t len (parts.toList.map fun p=>(p.1,Z p.2))
noncomputable def fF (t:TypeId) (m k v:Operand) (Z:Operand->Value) (H:IH):Option aa:=eB P H t (Z m) (Z k) (Z v)
noncomputable def qG (t:TypeId) (a:Operand) (Z:Operand->Value) (H:IH):Option aa:=eu P H t (Z a)
noncomputable def mF (t:TypeId) (a v:Operand) (Z:Operand->Value) (H:IH):Option aa:=gm P H t (Z a) (Z v)
noncomputable def qW (x:Operand) (Z:Operand->Value) (H:IH):Option aa:=bH H (Z x)
noncomputable def b2 (f:IntKind->Int->Int->Value) (alt:Option aa) (H:IH) (a b:Value):Option aa:=
 match a,b with
 | .int k n,.int k' m=>if k=k' then some (.val (f k n m) H) else none
 |_,_=>alt
noncomputable def jf (op:BinOp) (t:TypeId) (x y:Operand) (a b:Value) (H:IH):Option aa:=aC P H op t x y a b
noncomputable def rA (t:TypeId) (x y:Operand) (a b:Value) (H:IH):Option aa:=b2 (fun k n m=> .int k (jD k (pG n m))) (aC P H .add t x y a b) H a b
noncomputable def rP (t:TypeId) (x y:Operand) (a b:Value) (H:IH):Option aa:=b2 (fun k n m=> .int k (jD k (n - m))) (aC P H .sub t x y a b) H a b
noncomputable def rn (t:TypeId) (x y:Operand) (a b:Value) (H:IH):Option aa:=b2 (fun _ n m=> .bool (oz n m)) (aC P H .lss t x y a b) H a b
noncomputable def rG (t:TypeId) (x y:Operand) (a b:Value) (H:IH):Option aa:=b2 (fun _ n m=> .bool (nf n m)) (aC P H .leq t x y a b) H a b
noncomputable def rI (t:TypeId) (x y:Operand) (a b:Value) (H:IH):Option aa:=b2 (fun _ n m=> .bool (oz m n)) (aC P H .gtr t x y a b) H a b
noncomputable def rB (t:TypeId) (x y:Operand) (a b:Value) (H:IH):Option aa:=b2 (fun _ n m=> .bool (nf m n)) (aC P H .geq t x y a b) H a b
noncomputable def rj (t:TypeId) (x y:Operand) (a b:Value) (H:IH):Option aa:=b2 (fun _ n m=> .bool (n==m)) (aC P H .eql t x y a b) H a b
noncomputable def ry (t:TypeId) (x y:Operand) (a b:Value) (H:IH):Option aa:=b2 (fun _ n m=> .bool (n !=m)) (aC P H .neq t x y a b) H a b
noncomputable def mc (op:BinOp) (t:TypeId) (x y:Operand) (_:TypeId) (Z:Operand->Value) (H:IH):Option aa:=
 @BinOp.rec (fun _=>TypeId->Operand->Operand->Value->Value->IH->Option aa) (rA P) (rP P) (jf P .mul) (jf P .quo) (jf P .rem) (jf P .and) (jf P .or) (jf P .xor) (jf P .shl) (jf P .shr) (jf P .andNot)
  (rj P) (ry P) (rn P) (rG P) (rI P) (rB P) op t x y (Z x) (Z y) H
theorem n4 (op:BinOp) (t:TypeId) (x y:Operand) (yt:TypeId) (Z:Operand->Value) (H:IH):mc P op t x y yt Z H=aC P H op t x y (Z x) (Z y):=by
 have key:∀ (f:IntKind->Int->Int->Value) (op:BinOp),(∀ k n m,aC P H op t x y (.int k n) (.int k m)=some (.val (f k n m) H))->(∀ k k' n m,k≠k'->aC P H op t x y (.int k n) (.int k' m)=none)->
   ∀ a b,b2 f (aC P H op t x y a b) H a b=aC P H op t x y a b:=by
  intro f op h1 h2 a b;unfold b2;split
  ·split
   ·rename_i h;subst h;exact (h1 _ _ _).symm
   ·rename_i h;exact (h2 _ _ _ _ h).symm
  ·rfl
 unfold mc;cases op
 case add=>exact key _ _ (fun k n m=>by simp only [aC,if_true,jT,nJ]) (fun k k' n m h=>by simp only [aC,if_neg h]) _ _
 case sub=>exact key _ _ (fun k n m=>by simp only [aC,if_true,jT]) (fun k k' n m h=>by simp only [aC,if_neg h]) _ _
 case lss=>exact key _ _ (fun k n m=>by simp only [aC,if_true]) (fun k k' n m h=>by simp only [aC,if_neg h]) _ _
 case leq=>exact key _ _ (fun k n m=>by simp only [aC,if_true]) (fun k k' n m h=>by simp only [aC,if_neg h]) _ _
 case gtr=>exact key _ _ (fun k n m=>by simp only [aC,if_true]) (fun k k' n m h=>by simp only [aC,if_neg h]) _ _
 case geq=>exact key _ _ (fun k n m=>by simp only [aC,if_true]) (fun k k' n m h=>by simp only [aC,if_neg h]) _ _
 case eql=>exact key _ _ (fun k n m=>by simp [aC,cF]) (fun k k' n m h=>by simp [aC,cF,h]) _ _
 case neq=>exact key _ _ (fun k n m=>by simp [aC,cF]) (fun k k' n m h=>by simp [aC,cF,h]) _ _
 all_goals rfl
noncomputable def si (op:UnOp) (_:TypeId) (x:Operand) (Z:Operand->Value) (H:IH):Option aa:=lF P H op (Z x)
noncomputable def oG (s d:TypeId) (x:Operand) (Z:Operand->Value) (H:IH):Option aa:=bF P H s d (Z x)
noncomputable def qD (t:TypeId) (x:Operand) (Z:Operand->Value) (H:IH):Option aa:=bq P H t (Z x)
noncomputable def qV (fn:Fn) (a c:Array Operand) (Z:Operand->Value) (H:IH):Option aa:=if bM fn then some (.val (.func fn ⟨a.toList.map Z⟩ ⟨c.toList.map Z⟩) H) else none
noncomputable def qC (t:TypeId) (r:Option Operand) (Z:Operand->Value) (H:IH):Option aa:=bJ P H t (r.map Z)
noncomputable def qM (t:TypeId) (l c:Operand) (Z:Operand->Value) (H:IH):Option aa:=a4 P H t (Z l) (Z c)
noncomputable def lV (t:TypeId) (x:Operand) (lo hi mx:Option Operand) (Z:Operand->Value) (H:IH):Option aa:=dI P H t (Z x) (lo.map Z) (hi.map Z) (mx.map Z)
noncomputable def sc (s:TypeId) (x:Operand) (f:Nat) (Z:Operand->Value) (H:IH):Option aa:=bt P H s (Z x) f
noncomputable def sa (s:TypeId) (x:Operand) (f:Nat) (Z:Operand->Value) (H:IH):Option aa:=dA P H s (Z x) f
noncomputable def sd (t:TypeId) (x i:Operand) (Z:Operand->Value) (H:IH):Option aa:=cY P H t (Z x) (Z i)
noncomputable def se (t:TypeId) (x i:Operand) (Z:Operand->Value) (H:IH):Option aa:=dH P H t (Z x) (Z i)
noncomputable def sb (t:TypeId) (x k:Operand) (ok:Bool) (Z:Operand->Value) (H:IH):Option aa:=cH P H t (Z x) (Z k) ok
noncomputable def l9 (t:TypeId) (x:Operand) (Z:Operand->Value) (H:IH):Option aa:=fI P H t (Z x)
noncomputable def oq (x:Operand) (s:Bool) (Z:Operand->Value) (H:IH):Option aa:=@Bool.rec (fun _=>Option aa) none (gy H (Z x)) s
noncomputable def sg (x:Operand) (_ asserted:TypeId) (ok:Bool) (Z:Operand->Value) (H:IH):Option aa:=bb P H (Z x) asserted ok
noncomputable def r9 (x:Operand) (i:Nat) (Z:Operand->Value) (H:IH):Option aa:=b8 H (Z x) i
noncomputable def lN (x:Operand) (Z:Operand->Value) (H:IH):Option aa:=fG H (Z x)
noncomputable def mZ (c:Call) (Z:Operand->Value) (H:IH):Option aa:=
 match c.callee with
 | .value f=>dD H (Z f) (c.args.toList.map Z)
 |_=>none
noncomputable def k0 (args:List Value) (H:IH) (fv:Value):Option aa:=
 match fv with
 | .func (.yield l) _ _=>match fH self l args H with
  |some (v,H)=>some (.val v H)
  |none=>none
 |fv=>ku (dp P self H fv args)
noncomputable def su (args:Array Operand) (argTypes:Array TypeId) (ty:TypeId) (Z:Operand->Value) (H:IH) (b:Builtin):Option aa:=bp P H b argTypes ty (args.toList.map Z)
noncomputable def rT (args:Array Operand) (Z:Operand->Value) (H:IH) (f:Operand):Option aa:=k0 P self (args.toList.map Z) H (Z f)
noncomputable def q0 (ty:TypeId) (c:Call) (Z:Operand->Value) (H:IH):Option aa:=
 @Callee.rec (fun _=>Option aa) (rT P self c.args Z H) (fun _ _=>none) (su P c.args c.argTypes ty Z H) c.callee
noncomputable def hI (Z:Operand->Value) (H:IH) (o:Oper):Option aa:=
 @Op.rec (fun _=>(Operand->Value)->IH->Option aa)
  oH oH oJ (m4 P) qF (lO P) (fb P) (fF P) (qG P) (mF P) (fun _=>gH) (fun _=>gH) qW (mc P) (si P) (oG P) (fun _ _=>gH) (qD P) qV (qC P) (fun _ _=>gH) (qM P) (lV P) (sc P) (sa P) (sd P) (se P) (sb P)
  (fF P) (fun _ _ _=>gH) (fun _ _ _ _=>gH) (l9 P) oq (fun _=>gH) (sg P) r9 (q0 P self o.type) (fun _=>gH) mZ lN (fun _ _=>gH) (fun _ _ _=>gH) (fun _ _=>gH) o.op Z H
theorem cG (Z:Operand->Value) (H:IH) (o:Oper):hI P self Z H o=aq P self Z H o:=by
 obtain ⟨dst,op,type,pos,after,guard⟩:=o;cases op
 case binOp op t x y yt=>exact n4 P op t x y yt Z H
 case next x s=>cases s<;>rfl
 case build t ps=>exact jG P H t _
 case buildSlice t n ps=>exact eX P H t n _
 case load t a=>exact kF P H t _
 case store t a v=>exact j6 P H t _ _
 case indexAddr t x i=>exact fA P H t _ _
 case call c=>
  obtain ⟨callee,args,ats⟩:=c;cases callee with
  |value f=>
   show k0 P self (args.toList.map Z) H (Z f)=cf P self Z H ⟨.value f,args,ats⟩ type
   unfold k0 cf;rfl
  |invoke r n=>rfl
  |builtin b=>rfl
 all_goals rfl
end ops
noncomputable def qK (want:Bool) (v:Value):Option Bool:=
 match v with
 | .bool b=>some (b==want)
 | .chan _=>none
 |_=>some false
noncomputable def lS (fi:FI) (ops:Array Oper) (E:En) (g:Nat×Bool):Option Bool:=
 @Option.rec Nat (fun _=>Option Bool) (some false) (fun d=>qK g.2 (nN fi E d)) ((ops[g.1]?).bind (·.dst))
theorem l8 (fi:FI) (ops:Array Oper) (E:En) (o:Oper) (g:Nat×Bool) (h:o.guard=some g):lS fi ops E g=aN fi ops E o:=by
 obtain ⟨j,b⟩:=g;unfold lS aN;rw [h];simp only;cases (ops[j]?).bind (·.dst) with
 |none=>rfl
 |some d=>simp only [kZ];rfl
noncomputable def gF {R:Type} (no:R) (fi:FI) (ops:Array Oper) (E:En) (o:Oper) (a b:R):R:=
 @Option.rec (Nat×Bool) (fun _=>R) a (fun g=>@Option.rec Bool (fun _=>R) no (fun w=>@Bool.rec (fun _=>R) b a w) (lS fi ops E g)) o.guard
theorem ot {R:Type} (no:R) (fi:FI) (ops:Array Oper) (E:En) (o:Oper) (a b:R):gF no fi ops E o a b=(match aN fi ops E o with |some true=>a |some false=>b |none=>no):=by
 unfold gF;cases hg:o.guard with
 |none=>simp only [aN,hg]
 |some g=>
  simp only [l8 fi ops E o g hg];cases aN fi ops E o with
  |none=>rfl
  |some w=>cases w<;>rfl
abbrev Nx:=AL->AL->IH->List Deferred->bw
noncomputable def sv (fi:FI) (loc tmp:AL) (t:Nat):Value:=@ng.rec (fun _=>Value) ag (qf loc t) (qf tmp t) (kn fi t)
noncomputable def dW (fi:FI) (loc tmp:AL) (x:Operand):Value:=@Operand.rec (fun _=>Value) (sv fi loc tmp) nA nG qS x
theorem nB (fi:FI) (loc tmp:AL):dW fi loc tmp=bY fi ⟨loc,tmp⟩:=cS fi ⟨loc,tmp⟩
noncomputable def rq (fi:FI) (next:Nx) (loc tmp:AL) (H:IH) (D:List Deferred) (v:Value) (d:Nat):bw:=
 @ng.rec (fun _=>bw) (next loc tmp H D) (next (mH loc d v) tmp H D) (next loc (.c d v tmp) H D) (kn fi d)
noncomputable def fo (fi:FI) (dst:Option Tmp) (next:Nx) (loc tmp:AL) (H:IH) (D:List Deferred) (v:Value):bw:=
 @Option.rec Nat (fun _=>bw) (next loc tmp H D) (rq fi next loc tmp H D v) dst
theorem k4 (fi:FI) (dst:Option Tmp) (N:En->IH->List Deferred->bw) (loc tmp:AL) (H:IH) (D:List Deferred) (v:Value):
  fo fi dst (fun l t=>N ⟨l,t⟩) loc tmp H D v=N (aW fi ⟨loc,tmp⟩ dst v) H D:=by
 cases dst with
 |none=>rfl
 |some d=>
  show @ng.rec (fun _=>bw) (N ⟨loc,tmp⟩ H D) (N ⟨mH loc d v,tmp⟩ H D) (N ⟨loc,.c d v tmp⟩ H D) (kn fi d)=N (iR fi d v ⟨loc,tmp⟩) H D
  unfold iR;rw [kR,iY];cases cls fi d<;>rfl
noncomputable def kG (fi:FI) (ro:Option Nat) (dst:Option Tmp) (next:Nx) (loc tmp:AL) (D:List Deferred) (r:Option aa):bw:=
 @Option.rec aa (fun _=>bw) none (fun r=>@aa.rec (fun _=>bw) (fun v H=>fo fi dst next loc tmp H D v) (fun H=>fo fi dst next loc tmp H D undef)
  (fun d H=>if ro.isNone then fo fi dst next loc tmp H (d::D) undef else none) (fun v H=>some (.panic v,⟨loc,tmp⟩,H,D)) r) r
noncomputable def kV (fi:FI) (_ro:Option Nat) (dst:Option Tmp) (next:Nx) (loc tmp:AL) (H:IH) (D:List Deferred) (r:Option Value):bw:=
 @Option.rec Value (fun _=>bw) none (fo fi dst next loc tmp H D) r
section step
variable (P:Program) (self:Self)
noncomputable def oI (x:Operand) (fi:FI) (_ro:Option Nat) (dst:Option Tmp) (next:Nx) (loc tmp:AL) (H:IH) (D:List Deferred):bw:=fo fi dst next loc tmp H D (dW fi loc tmp x)
noncomputable def aZ (h:(Operand->Value)->IH->Option aa) (fi:FI) (ro:Option Nat) (dst:Option Tmp) (next:Nx) (loc tmp:AL) (H:IH) (D:List Deferred):bw:=kG fi ro dst next loc tmp D (h (dW fi loc tmp) H)
noncomputable def s2 (fi:FI) (ro:Option Nat) (dst:Option Tmp) (next:Nx) (loc tmp:AL) (H:IH) (D:List Deferred) (f:IntKind->Int->Int->Value) (alt:Option aa) (a b:Value):bw:=
 match a,b with
 | .int k n,.int k' m=>if k=k' then fo fi dst next loc tmp H D (f k n m) else none
 |_,_=>kG fi ro dst next loc tmp D alt
abbrev gO:=TypeId->Operand->Operand->FI->Option Nat->Option Tmp->Nx->AL->AL->IH->List Deferred->Value->Value->bw
noncomputable def jg (op:BinOp):gO:=fun t x y fi ro dst next loc tmp H D a b=>kG fi ro dst next loc tmp D (aC P H op t x y a b)
noncomputable def rK:gO:=fun t x y fi ro dst next loc tmp H D a b=>s2 fi ro dst next loc tmp H D (fun k n m=> .int k (jD k (pG n m))) (aC P H .add t x y a b) a b
noncomputable def r8:gO:=fun t x y fi ro dst next loc tmp H D a b=>s2 fi ro dst next loc tmp H D (fun k n m=> .int k (jD k (n - m))) (aC P H .sub t x y a b) a b
noncomputable def rN:gO:=fun t x y fi ro dst next loc tmp H D a b=>s2 fi ro dst next loc tmp H D (fun _ n m=> .bool (oz n m)) (aC P H .lss t x y a b) a b
noncomputable def rH:gO:=fun t x y fi ro dst next loc tmp H D a b=>s2 fi ro dst next loc tmp H D (fun _ n m=> .bool (nf n m)) (aC P H .leq t x y a b) a b
noncomputable def rW:gO:=fun t x y fi ro dst next loc tmp H D a b=>s2 fi ro dst next loc tmp H D (fun _ n m=> .bool (oz m n)) (aC P H .gtr t x y a b) a b
noncomputable def rX:gO:=fun t x y fi ro dst next loc tmp H D a b=>s2 fi ro dst next loc tmp H D (fun _ n m=> .bool (nf m n)) (aC P H .geq t x y a b) a b
noncomputable def rl:gO:=fun t x y fi ro dst next loc tmp H D a b=>s2 fi ro dst next loc tmp H D (fun _ n m=> .bool (n==m)) (aC P H .eql t x y a b) a b
noncomputable def rO:gO:=fun t x y fi ro dst next loc tmp H D a b=>s2 fi ro dst next loc tmp H D (fun _ n m=> .bool (n !=m)) (aC P H .neq t x y a b) a b
noncomputable def pE (op:BinOp) (t:TypeId) (x y:Operand) (_:TypeId) (fi:FI) (ro:Option Nat) (dst:Option Tmp) (next:Nx) (loc tmp:AL) (H:IH) (D:List Deferred):bw:=
 @BinOp.rec (fun _=>gO) (rK P) (r8 P) (jg P .mul) (jg P .quo) (jg P .rem) (jg P .and) (jg P .or) (jg P .xor) (jg P .shl) (jg P .shr) (jg P .andNot)
  (rl P) (rO P) (rN P) (rH P) (rW P) (rX P) op t x y fi ro dst next loc tmp H D (dW fi loc tmp x) (dW fi loc tmp y)
noncomputable def mG (t:TypeId) (a:Operand) (fi:FI) (ro:Option Nat) (dst:Option Tmp) (next:Nx) (loc tmp:AL) (H:IH) (D:List Deferred):bw:=
 match dW fi loc tmp a with
 | .pointer (some ⟨b,off,none⟩)=>kV fi ro dst next loc tmp H D (qZ P H t b off)
 |_=>none
noncomputable def o9 (t:TypeId) (H:IH) (x:Value):Option Value:=
 match P.underlying t,x with
 |some (.slice _),.slice _ n _=>some (.int .i64 (.ofNat n))
 |_,x=>gh P H t x
theorem nu (t:TypeId) (H:IH) (x:Value):o9 P t H x=gh P H t x:=by
 unfold o9;split
 ·rename_i e a n c hu
  unfold gh;rw [hu];rfl
 ·rfl
noncomputable def sLen (ats:Array TypeId) (fi:FI) (ro:Option Nat) (dst:Option Tmp) (next:Nx) (loc tmp:AL) (H:IH) (D:List Deferred) (x:Operand):bw:=
 @Option.rec Nat (fun _=>bw) none (fun t=>kV fi ro dst next loc tmp H D (o9 P t H (dW fi loc tmp x))) ats[0]?
noncomputable def rL (args:Array Operand) (ats:Array TypeId) (ty:TypeId) (fi:FI) (ro:Option Nat) (dst:Option Tmp) (next:Nx) (loc tmp:AL) (H:IH) (D:List Deferred) (b:Builtin):bw:=
 match b,args.toList with
 | .len,[x]=>sLen P ats fi ro dst next loc tmp H D x
 |b,l=>kG fi ro dst next loc tmp D (bp P H b ats ty (l.map (dW fi loc tmp)))
noncomputable def qE (ty:TypeId) (c:Call) (fi:FI) (ro:Option Nat) (dst:Option Tmp) (next:Nx) (loc tmp:AL) (H:IH) (D:List Deferred):bw:=
 @Callee.rec (fun _=>bw) (fun f=>kG fi ro dst next loc tmp D (k0 P self (c.args.toList.map (dW fi loc tmp)) H (dW fi loc tmp f))) (fun _ _=>none) (rL P c.args c.argTypes ty fi ro dst next loc tmp H D) c.callee
noncomputable def stepG (o:Oper):FI->Option Nat->Option Tmp->Nx->AL->AL->IH->List Deferred->bw:=
 @Op.rec (fun _=>FI->Option Nat->Option Tmp->Nx->AL->AL->IH->List Deferred->bw)
  oI oI (fun c a b=>aZ (oJ c a b)) (fun e=>aZ (m4 P e)) (fun e x=>aZ (qF e x)) (fun t ps=>aZ (lO P t ps)) (fun t n ps=>aZ (fb P t n ps)) (fun t m k v=>aZ (fF P t m k v))
  (mG P) (fun t a v=>aZ (mF P t a v)) (fun _=>aZ gH) (fun _=>aZ gH) (fun x=>aZ (qW x)) (pE P) (fun op t x=>aZ (si P op t x)) (fun s d x=>aZ (oG P s d x)) (fun _ _=>aZ gH) (fun t x=>aZ (qD P t x))
  (fun fn a c=>aZ (qV fn a c)) (fun t r=>aZ (qC P t r)) (fun _ _=>aZ gH) (fun t l c=>aZ (qM P t l c)) (fun t x l h m=>aZ (lV P t x l h m)) (fun s x f=>aZ (sc P s x f)) (fun s x f=>aZ (sa P s x f)) (fun t x i=>aZ (sd P t x i)) (fun t x i=>aZ (se P t x i))
  (fun t x k ok=>aZ (sb P t x k ok)) (fun t m k v=>aZ (fF P t m k v)) (fun _ _ _=>aZ gH) (fun _ _ _ _=>aZ gH) (fun t x=>aZ (l9 P t x)) (fun x s=>aZ (oq x s)) (fun _=>aZ gH) (fun x xt t ok=>aZ (sg P x xt t ok)) (fun x i=>aZ (r9 x i))
  (qE P self o.type) (fun _=>aZ gH) (fun c=>aZ (mZ c)) (fun x=>aZ (lN x)) (fun _ _=>aZ gH) (fun _ _ _=>aZ gH) (fun _ _=>aZ gH) o.op
theorem mI (o:Oper) (fi:FI) (ro:Option Nat) (dst:Option Tmp) (next:Nx) (loc tmp:AL) (H:IH) (D:List Deferred):stepG P self o fi ro dst next loc tmp H D=kG fi ro dst next loc tmp D (aq P self (bY fi ⟨loc,tmp⟩) H o):=by
 rw [←nB,←cG];obtain ⟨dst',op,type,pos,after,guard⟩:=o;cases op
 case load t a=>
  show mG P t a fi ro dst next loc tmp H D=kG fi ro dst next loc tmp D (eu P H t (dW fi loc tmp a))
  unfold mG eu;cases dW fi loc tmp a with
  |pointer p=>
   cases p with
   |none=>rfl
   |some ad=>
    obtain ⟨b,off,sp⟩:=ad;cases sp with
    |none=>
     simp only;cases qZ P H t b off<;>rfl
    |some _=>rfl
  |_=>rfl
 case binOp op t x y yt=>
  show pE P op t x y yt fi ro dst next loc tmp H D=kG fi ro dst next loc tmp D (mc P op t x y yt (dW fi loc tmp) H)
  have key:∀ (f:IntKind->Int->Int->Value) (alt:Option aa) (a b:Value),s2 fi ro dst next loc tmp H D f alt a b=kG fi ro dst next loc tmp D (b2 f alt H a b):=by
   intro f alt a b;unfold s2 b2;split
   ·split<;>rfl
   ·rfl
  unfold pE mc;cases op<;>first |rfl |exact key _ _ _ _
 case call c=>
  obtain ⟨callee,args,ats⟩:=c;cases callee with
  |value f=>rfl
  |invoke r n=>rfl
  |builtin b=>
   show rL P args ats type fi ro dst next loc tmp H D b=kG fi ro dst next loc tmp D (bp P H b ats type (args.toList.map (dW fi loc tmp)))
   unfold rL;split
   ·rename_i x hx
    rw [hx];unfold sLen;simp only [List.map_cons,List.map_nil,bp,nu];cases ats[0]? with
    |none=>rfl
    |some t=>
     simp only;cases gh P H t (dW fi loc tmp x)<;>rfl
   ·rfl
 all_goals rfl
end step
noncomputable def bG (P:Program) (self:Self) (fi:FI) (ro:Option Nat) (ops:Array Oper) (l:List Oper):Nx:=
 @List.rec Oper (fun _=>Nx) (fun loc tmp H D=>some (.normal,⟨loc,tmp⟩,H,D))
  (fun o _ ih loc tmp H D=>@Option.rec (Nat×Bool) (fun _=>bw) (stepG P self o fi ro o.dst ih loc tmp H D)
   (fun _=>gF none fi ops ⟨loc,tmp⟩ o (stepG P self o fi ro o.dst ih loc tmp H D) (fo fi o.dst ih loc tmp H D undef)) o.guard) l
noncomputable def mM (P:Program) (self:Self) (fi:FI) (ro:Option Nat) (ops:Array Oper) (l:List Oper) (E:En):IH->List Deferred->bw:=bG P self fi ro ops l E.loc E.tmp
theorem lA (P:Program) (self:Self) (fi:FI) (ro:Option Nat) (ops:Array Oper) (l:List Oper):∀ loc tmp H D,bG P self fi ro ops l loc tmp H D=bV P self fi ro ops l ⟨loc,tmp⟩ H D:=by
 induction l with
 |nil=>intro loc tmp H D;rfl
 |cons o l ih=>
  intro loc tmp H D;have hn:bG P self fi ro ops l=fun l1 t1=>(fun E=>bV P self fi ro ops l E) ⟨l1,t1⟩:=by
   funext l1 t1 H1 D1;exact ih l1 t1 H1 D1
  have hstep:stepG P self o fi ro o.dst (bG P self fi ro ops l) loc tmp H D=(match aq P self (bY fi ⟨loc,tmp⟩) H o with
    |some (.val v H)=>bV P self fi ro ops l (aW fi ⟨loc,tmp⟩ o.dst v) H D
    |some (.skip H)=>bV P self fi ro ops l (aW fi ⟨loc,tmp⟩ o.dst undef) H D
    |some (.defer d H)=>if ro.isNone then bV P self fi ro ops l (aW fi ⟨loc,tmp⟩ o.dst undef) H (d::D) else none
    |some (.panic v H)=>some (.panic v,⟨loc,tmp⟩,H,D)
    |none=>none):=by
   rw [mI,hn];unfold kG;simp only [k4];cases aq P self (bY fi ⟨loc,tmp⟩) H o with
   |none=>rfl
   |some r=>cases r<;>rfl
  have hoff:fo fi o.dst (bG P self fi ro ops l) loc tmp H D undef=bV P self fi ro ops l (aW fi ⟨loc,tmp⟩ o.dst undef) H D:=by
   rw [hn,k4]
  show @Option.rec (Nat×Bool) (fun _=>bw) (stepG P self o fi ro o.dst (bG P self fi ro ops l) loc tmp H D)
   (fun _=>gF none fi ops ⟨loc,tmp⟩ o (stepG P self o fi ro o.dst (bG P self fi ro ops l) loc tmp H D) (fo fi o.dst (bG P self fi ro ops l) loc tmp H D undef)) o.guard=_
  have e:@Option.rec (Nat×Bool) (fun _=>bw) (stepG P self o fi ro o.dst (bG P self fi ro ops l) loc tmp H D)
   (fun _=>gF none fi ops ⟨loc,tmp⟩ o (stepG P self o fi ro o.dst (bG P self fi ro ops l) loc tmp H D) (fo fi o.dst (bG P self fi ro ops l) loc tmp H D undef)) o.guard=
    gF none fi ops ⟨loc,tmp⟩ o (stepG P self o fi ro o.dst (bG P self fi ro ops l) loc tmp H D) (fo fi o.dst (bG P self fi ro ops l) loc tmp H D undef):=by
   unfold gF;cases o.guard<;>rfl
  rw [e,ot,hstep,hoff]
  conv=>rhs;unfold bV
  rfl
theorem k7 (P:Program) (self:Self) (fi:FI) (ro:Option Nat) (ops:Array Oper) (l:List Oper) (E:En) (H:IH) (D:List Deferred):mM P self fi ro ops l E H D=bV P self fi ro ops l E H D:=
 lA P self fi ro ops l E.loc E.tmp H D
noncomputable def oD (P:Program) (self:Self) (fi:FI) (_n0 _i:Nat) (o:Oper) (_m:Nat) (s:DS):DR:=
 match hI P self (jJ fi s.T) s.H o with
 |some (.val v _)=> .done { s with T:=gx fi s.T o.dst v }
 |_=> .fail
noncomputable def dz (P:Program) (self:Self) (fi:FI) (T:En) (H:IH) (o:Oper) (v:Value):Bool:=
 match hI P self (jJ fi T) H o with
 |some (.val v' _)=>g7 v v'
 |_=>false
theorem fR (P:Program) (self:Self) (fi:FI) (T:En) (H:IH) (o:Oper) (v:Value):dz P self fi T H o v=sameAt P self fi T H o v:=by
 unfold dz sameAt lP;rw [cG,cS];cases aq P self (bY fi T) H o with
 |none=>rfl
 |some r=>cases r<;>rfl
noncomputable def ej (P:Program) (self:Self) (fi:FI) (T:En) (o:Oper) (v:Value) (m:Nat) (l:List (Nat×IH)):Bool:=
 @List.rec (Nat×IH) (fun _=>Bool) true (fun p _ ih=>@Bool.rec (fun _=>Bool) (@Bool.rec (fun _=>Bool) false ih (dz P self fi T p.2 o v)) ih (kv m p.1)) l
theorem jP (P:Program) (self:Self) (fi:FI) (T:En) (o:Oper) (v:Value) (m:Nat) (l:List (Nat×IH)):ej P self fi T o v m l=cW P self fi T o v m l:=by
 induction l with
 |nil=>rfl
 |cons p l ih=>
  obtain ⟨c,Hc⟩:=p
  show @Bool.rec (fun _=>Bool) (@Bool.rec (fun _=>Bool) false (ej P self fi T o v m l) (dz P self fi T Hc o v)) (ej P self fi T o v m l) (kv m c)=_
  rw [ih,fR,db];simp only [cW];cases m.testBit c<;>cases sameAt P self fi T Hc o v<;>rfl
noncomputable def dn (P:Program) (self:Self) (fi:FI) (H:IH) (m:Nat) (l:List Rd):Bool:=
 @List.rec Rd (fun _=>Bool) true (fun r _ ih=>@Bool.rec (fun _=>Bool) (@Bool.rec (fun _=>Bool) false ih (dz P self fi r.T H r.o r.v)) ih (kv m r.i)) l
theorem jZ (P:Program) (self:Self) (fi:FI) (H:IH) (m:Nat) (l:List Rd):dn P self fi H m l=cv P self fi H m l:=by
 induction l with
 |nil=>rfl
 |cons r l ih=>
  show @Bool.rec (fun _=>Bool) (@Bool.rec (fun _=>Bool) false (dn P self fi H m l) (dz P self fi r.T H r.o r.v)) (dn P self fi H m l) (kv m r.i)=_
  rw [ih,fR,db];simp only [cv];cases m.testBit r.i<;>cases sameAt P self fi r.T H r.o r.v<;>rfl
noncomputable def fX (m:Nat) (l:List (Nat×IH)):Bool:=@List.rec (Nat×IH) (fun _=>Bool) true (fun p _ ih=>@Bool.rec (fun _=>Bool) false ih (kv m p.1)) l
theorem j1 (m:Nat) (l:List (Nat×IH)):fX m l=chained m l:=by
 induction l with
 |nil=>rfl
 |cons p l ih=>
  obtain ⟨c,Hc⟩:=p
  show @Bool.rec (fun _=>Bool) false (fX m l) (kv m c)=_
  rw [ih,db];simp only [chained];cases m.testBit c<;>rfl
noncomputable def q7 (m:Nat) (l:List (Nat×av)):List (Nat×av):=@List.rec (Nat×av) (fun _=>List (Nat×av)) [] (fun p _ ih=>@Bool.rec (fun _=>List (Nat×av)) ih (p::ih) (kv m p.1)) l
theorem oO (m:Nat) (l:List (Nat×av)):q7 m l=l.filter fun x=>m.testBit x.1:=by
 induction l with
 |nil=>rfl
 |cons p l ih=>
  show @Bool.rec (fun _=>List (Nat×av)) (q7 m l) (p::q7 m l) (kv m p.1)=_
  rw [ih,db,List.filter_cons];cases m.testBit p.1<;>rfl
noncomputable def mf (m:Nat) (l:List (Nat×av)):List (Nat×av):=@List.rec (Nat×av) (fun _=>List (Nat×av)) [] (fun p _ ih=>@Bool.rec (fun _=>List (Nat×av)) (p::ih) ih (kv m p.1)) l
theorem n6 (m:Nat) (l:List (Nat×av)):mf m l=l.filter fun x=> !m.testBit x.1:=by
 induction l with
 |nil=>rfl
 |cons p l ih=>
  show @Bool.rec (fun _=>List (Nat×av)) (p::mf m l) (mf m l) (kv m p.1)=_
  rw [ih,db,List.filter_cons];cases m.testBit p.1<;>rfl
noncomputable def oA (P:Program) (self:Self) (fi:FI) (_n0 i:Nat) (o:Oper) (m:Nat) (s:DS):DR:=
 match hI P self (jJ fi s.T) s.H o with
 |some (.val v _)=>@Bool.rec (fun _=>DR) .fail (.done { s with T:=gx fi s.T o.dst v,reads:=⟨i,o,s.T,v⟩::s.reads }) (ej P self fi s.T o v m s.aM)
 |_=> .fail
noncomputable def lR (P:Program) (self:Self) (fi:FI) (n0 i:Nat) (o:Oper) (_m:Nat) (s:DS):DR:=
 match hI P self (jJ fi s.T) { s.H with n:=n0+i } o with
 |some (.val v H')=>match H'.get (n0+i) with
  |some ob=> .done { s with T:=gx fi s.T o.dst v,bz:=(i,ob)::s.bz }
  |none=> .fail
 |_=> .fail
noncomputable def kW (P:Program) (self:Self) (fi:FI) (i:Nat) (dst:Option Tmp) (m:Nat) (s:DS) (r:Option aa):DR:=
 match r with
 |some (.val v H')=>@Bool.rec (fun _=>DR) .fail (.done { T:=gx fi s.T dst v,H:=H',bz:=mf m s.bz,aM:=(i,s.H)::s.aM,reads:=s.reads }) (dn P self fi H' m s.reads)
 |some (.skip H')=>@Bool.rec (fun _=>DR) .fail (.done { T:=gx fi s.T dst undef,H:=H',bz:=mf m s.bz,aM:=(i,s.H)::s.aM,reads:=s.reads }) (dn P self fi H' m s.reads)
 |some (.panic v H')=> .panic v H'
 |_=> .fail
noncomputable def mU (P:Program) (self:Self) (fi:FI) (n0 i:Nat) (o:Oper) (m:Nat) (s:DS):DR:=
 @Bool.rec (fun _=>DR) .fail (kW P self fi i o.dst m s (hI P self (jJ fi s.T) (ak n0 (q7 m s.bz) s.H) o)) (fX m s.aM)
noncomputable def b6 (P:Program) (self:Self) (fi:FI) (ops:Array Oper) (n0 i:Nat) (o:Oper) (m:Nat) (s:DS):DR:=
 gF .fail fi ops s.T o (@Kind.rec (fun _=>Program->Self->FI->Nat->Nat->Oper->Nat->DS->DR) oD oA lR mU (kindOf P o) P self fi n0 i o m s) (.done { s with T:=gx fi s.T o.dst undef })
theorem cM {R:Type} (b:Bool) (x y:R):@Bool.rec (fun _=>R) y x b=if b=true then x else y:=by cases b<;>rfl
theorem eJ (P:Program) (self:Self) (fi:FI) (ops:Array Oper) (n0 i:Nat) (o:Oper) (m:Nat) (s:DS):b6 P self fi ops n0 i o m s=bf P self fi ops n0 i o m s:=by
 unfold b6 bf;rw [ot];split
 ·rename_i hw
  rw [hw];simp only;cases hk:kindOf P o with
  |pure=>
   simp only [oD,cG,cS,di];cases aq P self (bY fi s.T) s.H o with
   |none=>rfl
   |some r=>cases r<;>rfl
  |read=>
   simp only [oA,cG,cS,di,cM,jP];cases aq P self (bY fi s.T) s.H o with
   |none=>rfl
   |some r=>cases r<;>rfl
  |fresh=>
   simp only [lR,cG,cS,di];cases aq P self (bY fi s.T) { s.H with n:=n0+i } o with
   |none=>rfl
   |some r=>cases r<;>rfl
  |chain=>
   simp only [mU,kW,cG,cS,di,cM,jZ,oO,n6,j1];cases chained m s.aM with
   |false=>rfl
   |true=>
    simp only [if_true];cases aq P self (bY fi s.T) (ak n0 (s.bz.filter fun x=>m.testBit x.1) s.H) o with
    |none=>rfl
    |some r=>cases r<;>rfl
 ·rename_i hw;rw [hw];simp only [di]
 ·rename_i hw;rw [hw]
noncomputable def mW (next:Nat->List Nat->DS->Option (Nat×Value×IH)->DR) (i:Nat) (ms:List Nat) (s:DS) (r:DR):DR:=
 @DR.rec (fun _=>DR) (fun s'=>next (i+1) ms s' none) (fun v H=>next (i+1) ms { s with aM:=(i,s.H)::s.aM } (some (i,v,H))) .fail r
noncomputable def ik (next:Nat->List Nat->DS->Option (Nat×Value×IH)->DR) (i:Nat) (ms:List Nat) (px:Nat×Value×IH) (r:DR):DR:=
 match r with
 | .done s'=>next (i+1) ms s' (some px)
 |_=> .fail
noncomputable def r5 (s:DS) (px:Option (Nat×Value×IH)):DR:=
 match px with
 |none=> .done s
 |some (_,v,H)=> .panic v H
noncomputable def cc (P:Program) (self:Self) (fi:FI) (ops:Array Oper) (n0:Nat) (l:List Oper):Nat->List Nat->DS->Option (Nat×Value×IH)->DR:=
 @List.rec Oper (fun _=>Nat->List Nat->DS->Option (Nat×Value×IH)->DR) (fun _ _ s px=>r5 s px)
  (fun o _ ih i ms s px=>@List.rec Nat (fun _=>DR) .fail (fun m ms _=>@Option.rec (Nat×Value×IH) (fun _=>DR) (mW ih i ms s (b6 P self fi ops n0 i o m s))
   (fun px=>@Bool.rec (fun _=>DR) (ik ih i ms px (b6 P self fi ops n0 i o m s)) (ih (i+1) ms s (some px)) (kv m px.1)) px) ms) l
theorem gJ (P:Program) (self:Self) (fi:FI) (ops:Array Oper) (n0:Nat) (l:List Oper):∀ i ms s px,cc P self fi ops n0 l i ms s px=ar P self fi ops n0 l i ms s px:=by
 induction l with
 |nil=>intro i ms s px;cases px<;>rfl
 |cons o l ih=>
  intro i ms s px;cases ms with
  |nil=>cases px<;>rfl
  |cons m ms=>
   cases px with
   |none=>
    show mW (cc P self fi ops n0 l) i ms s (b6 P self fi ops n0 i o m s)=_
    rw [eJ];unfold ar mW;cases bf P self fi ops n0 i o m s with
    |done s'=>exact ih _ _ _ _
    |panic v H=>exact ih _ _ _ _
    |fail=>rfl
   |some px=>
    obtain ⟨c,v,H⟩:=px
    show @Bool.rec (fun _=>DR) (ik (cc P self fi ops n0 l) i ms (c,v,H) (b6 P self fi ops n0 i o m s)) (cc P self fi ops n0 l (i+1) ms s (some (c,v,H))) (kv m c)=_
    rw [eJ,ih,db];unfold ik
    conv=>rhs;unfold ar
    cases m.testBit c with
    |true=>rfl
    |false=>
     cases bf P self fi ops n0 i o m s with
     |done s'=>exact ih _ _ _ _
     |panic v H=>rfl
     |fail=>rfl
noncomputable def nT {α:Type} (l:List α):(Nat->α->Bool)->Nat->Bool:=@List.rec α (fun _=>(Nat->α->Bool)->Nat->Bool) (fun _ _=>true) (fun a _ ih p i=>@Bool.rec (fun _=>Bool) false (ih p (Nat.succ i)) (p i a)) l
theorem kP {α:Type} (p:Nat->α->Bool) (d:Bool) (l:List α):∀ k,nT l p k=(List.range l.length).all (fun i=>(l[i]?).elim d (p (k+i))):=by
 induction l with
 |nil=>intro k;rfl
 |cons a l ih=>
  intro k
  show @Bool.rec (fun _=>Bool) false (nT l p (k+1)) (p k a)=_
  rw [ih,List.length_cons,List.range_succ_eq_map,List.all_cons,List.all_map];have e:((fun i=>((a::l)[i]?).elim d (p (k+i)))∘Nat.succ)=fun i=>(l[i]?).elim d (p (k+1+i)):=by
   funext i;simp only [Function.comp_apply,List.getElem?_cons_succ];cases l[i]? with
   |none=>rfl
   |some x=>simp only [Nat.succ_eq_add_one,Option.elim];congr 1;omega
  rw [e];simp only [List.getElem?_cons_zero,Nat.add_zero,Option.elim];cases p k a<;>rfl
theorem pO (a b:Nat):Nat.beq a b=(a==b):=by
 rw [Bool.eq_iff_iff,Nat.beq_eq];simp
noncomputable def qH (x:Option Tmp) (t:Nat):Bool:=@Option.rec Nat (fun _=>Bool) false (fun u=>Nat.beq u t) x
theorem nr (x:Option Tmp) (t:Nat):qH x t=(x==some t):=by
 cases x with
 |none=>rfl
 |some u=>exact pO u t
noncomputable def lJ (ms looks:List Nat) (d:Option Tmp) (m i j t:Nat):Bool:=
 @Bool.rec (fun _=>Bool) false
  (@Bool.rec (fun _=>Bool) (@Bool.rec (fun _=>Bool) (@Bool.rec (fun _=>Bool) true false (k6 looks t)) true (kv (@Option.rec Nat (fun _=>Nat) 0 (fun n=>n) (lY ms j)) i)) true (kv m j))
  (@Bool.rec (fun _=>Bool) (@Bool.rec (fun _=>Bool) true false (qH d t)) true (Nat.beq j i))
noncomputable def mP (ms looks:List Nat) (d:Option Tmp) (m i j:Nat) (oj:Oper):Bool:=@Option.rec Nat (fun _=>Bool) true (lJ ms looks d m i j) oj.dst
noncomputable def mj (i:Nat) (l:List Edge):Bool:=@List.rec Edge (fun _=>Bool) true (fun e _ ih=>@Bool.rec (fun _=>Bool) false ih (@Bool.rec (fun _=>Bool) true (Nat.ble (Nat.succ e.on) i) (Region.binds .any e))) l
noncomputable def oB (ops:Array Oper) (ms:List Nat) (i:Nat) (o:Oper):Bool:=
 @Option.rec Nat (fun _=>Bool) false (fun m=>@Bool.rec (fun _=>Bool) false (nT ops.toList (mP ms (o.looksAt ops) o.dst m i) 0) (mj i o.after.toList)) (lY ms i)
noncomputable def eP (ops:Array Oper) (ms:List Nat):Bool:=nT ops.toList (oB ops ms) 0
theorem gT (l:List Nat) (t:Nat):k6 l t=l.contains t:=by
 induction l with
 |nil=>rfl
 |cons k l ih=>
  show @Bool.rec (fun _=>Bool) (k6 l t) true (Nat.beq k t)=_
  rw [ih,List.contains_cons];have:Nat.beq k t=(t==k):=by
   rw [pO];exact Bool.beq_comm
  rw [this];cases t==k<;>rfl
theorem iH (ops:Array Oper) (ms:List Nat):eP ops ms=dj ops ms:=by
 unfold eP dj;rw [kP _ false ops.toList 0];have hsz:ops.toList.length=ops.size:=Array.length_toList;rw [hsz]
 congr 1
 funext i;rw [←Array.getElem?_toList];cases ho:ops.toList[i]? with
 |none=>rfl
 |some o=>
  simp only [Nat.zero_add,Option.elim];unfold oB;rw [je];cases hm:ms[i]? with
  |none=>rfl
  |some m=>
   simp only;have hback:∀ l:List Edge,mj i l=l.all (fun e=> !Region.binds .any e ||decide (e.on<i)):=by
    intro l
    induction l with
    |nil=>rfl
    |cons e l ih=>
     show @Bool.rec (fun _=>Bool) false (mj i l) (@Bool.rec (fun _=>Bool) true (Nat.ble (Nat.succ e.on) i) (Region.binds .any e))=_
     rw [ih,dP,List.all_cons];have:decide (Nat.succ e.on<=i)=decide (e.on<i):=rfl;rw [this];cases Region.binds .any e<;>cases decide (e.on<i)<;>rfl
   rw [hback,kP _ true ops.toList 0,hsz]
   have hin:(List.range ops.size).all (fun j=>(ops.toList[j]?).elim true (mP ms (o.looksAt ops) o.dst m i (0+j)))=
     (List.range ops.size).all fun j=>match ops[j]? with
      |some oj=>match oj.dst with
       |none=>true
       |some t=>(j==i ||o.dst !=some t) &&(m.testBit j ||(ms.getD j 0).testBit i || !(o.looksAt ops).contains t)
      |none=>true:=by
    congr 1
    funext j;rw [←Array.getElem?_toList];cases ops.toList[j]? with
    |none=>rfl
    |some oj=>
     simp only [Nat.zero_add,Option.elim];unfold mP;cases oj.dst with
     |none=>rfl
     |some t=>
      show lJ ms (o.looksAt ops) o.dst m i j t=_
      unfold lJ;rw [je,db,db,gT,nr];have hg:(@Option.rec Nat (fun _=>Nat) 0 (fun n=>n) ms[j]?)=ms.getD j 0:=by
       rw [List.getD_eq_getElem?_getD];cases ms[j]? <;>rfl
      rw [hg];have hj:Nat.beq j i=(j==i):=pO j i;rw [hj];simp only [bne];cases (j==i)<;>cases (o.dst==some t)<;>cases m.testBit j<;>cases (ms.getD j 0).testBit i<;>cases (o.looksAt ops).contains t<;>rfl
   refine (congrArg (fun b=>@Bool.rec (fun _=>Bool) false b (o.after.toList.all fun e=> !Region.binds .any e ||decide (e.on<i))) hin).trans ?_;cases o.after.toList.all (fun e=> !Region.binds .any e ||decide (e.on<i))<;>rfl
noncomputable def kQ (fi:FI) (ops:Array Oper) (T:En) (n0:Nat) (D:List Deferred) (r:DR):bw:=
 @DR.rec (fun _=>bw) (fun s=>some (.normal,s.T,ak n0 s.bz s.H,D)) (fun v H=>some (.panic v,b7 fi ops.toList T,H,D)) none r
noncomputable def iQ (P:Program) (self:Self) (fi:FI) (ops:Array Oper) (T:En) (H:IH) (D:List Deferred):bw:=
 @Bool.rec (fun _=>bw) none (kQ fi ops T H.n D (cc P self fi ops H.n ops.toList 0 (aU ops.toList []) ⟨T,{ H with n:=H.n+cX P ops },[],[],[]⟩ none)) (eP ops (aU ops.toList []))
theorem kj (P:Program) (self:Self) (fi:FI) (ops:Array Oper) (T:En) (H:IH) (D:List Deferred):iQ P self fi ops T H D=fT P self fi ops T H D:=by
 unfold iQ fT kQ;rw [gJ,cM,iH];simp only;split
 ·cases ar P self fi ops H.n ops.toList 0 (aU ops.toList []) ⟨T,{ H with n:=H.n+cX P ops },[],[],[]⟩ none<;>rfl
 ·rfl
noncomputable def qU (xn:En->IH->List Deferred->bw) (r:bw):bw:=
 @Option.rec (X×En×IH×List Deferred) (fun _=>bw) none (fun p=>@Prod.rec X (En×IH×List Deferred) (fun _=>bw) (fun x p=>@X.rec (fun _=>bw) (xn p.1 p.2.1 p.2.2) (fun id=>some (.exit id,p)) (some (.ret,p)) (fun v=>some (.panic v,p)) x) p) r
theorem mL (xn:En->IH->List Deferred->bw) (r:bw):qU xn r=(match r with |some (.normal,T,H,D)=>xn T H D |r=>r):=by
 cases r with
 |none=>rfl
 |some p=>obtain ⟨x,T,H,D⟩:=p;cases x<;>rfl
noncomputable def lL (id:Nat) (r:bw):bw:=
 @Option.rec (X×En×IH×List Deferred) (fun _=>bw) none (fun p=>@Prod.rec X (En×IH×List Deferred) (fun _=>bw) (fun x p=>@X.rec (fun _=>bw) (some (.normal,p)) (fun j=>@Bool.rec (fun _=>bw) (some (.exit j,p)) (some (.normal,p)) (Nat.beq j id)) (some (.ret,p)) (fun v=>some (.panic v,p)) x) p) r
theorem mV (id:Nat) (r:bw):lL id r=(match r with |some (.exit j,T,H,D)=>if j=id then some (.normal,T,H,D) else some (.exit j,T,H,D) |r=>r):=by
 cases r with
 |none=>rfl
 |some p=>
  obtain ⟨x,T,H,D⟩:=p;cases x with
  |exit j=>
   show @Bool.rec (fun _=>bw) (some (.exit j,T,H,D)) (some (.normal,T,H,D)) (Nat.beq j id)=_
   cases hb:Nat.beq j id with
   |true=>simp [Nat.eq_of_beq_eq_true hb]
   |false=>simp [Nat.ne_of_beq_eq_false hb]
  |_=>rfl
noncomputable def rV (a b:En->IH->List Deferred->bw) (T:En) (H:IH) (D:List Deferred) (v:Value):bw:=
 match v with
 | .bool c=>@Bool.rec (fun _=>bw) (b T H D) (a T H D) c
 |_=>none
noncomputable def bK (P:Program) (self:Self) (fi:FI) (ro:Option Nat) (c:Code):En->IH->List Deferred->bw:=
 @Code.rec (fun _=>En->IH->List Deferred->bw)
  (fun T H D=>some (.normal,T,H,D))
  (fun _ ops d T H D=>@Bool.rec (fun _=>bw) (mM P self fi ro ops ops.toList T.reset H D) (iQ P self fi ops T.reset H D) d)
  (fun _ _ ia ib T H D=>qU ib (ia T H D))
  (fun c _ _ ia ib T H D=>rV ia ib T H D (jJ fi T c))
  (fun id _ ic T H D=>lL id (ic T H D))
  (fun c ic T H D=>qU (self.code fi ro (.loop c)) (ic T H D))
  (fun f ps asg body _ _ T H D=>aA P self fi ro (.rangeFunc f ps asg body) T H D)
  (fun id T H D=>some (.exit id,T,H,D))
  (fun _ ic T H D=>ic T H D)
  (fun _ T H D=>some (.normal,T,H,D))
  (fun _ _ _ _=>none)
  (fun T H D=>some (.ret,T,H,D))
  (fun _ _ _ _=>none) c
theorem gA (P:Program) (self:Self) (fi:FI) (ro:Option Nat) (c:Code):∀ T H D,bK P self fi ro c T H D=aA P self fi ro c T H D:=by
 induction c with
 |skip=>intro T H D;rfl
 |region id ops d=>
  intro T H D;cases d with
  |false=>exact k7 P self fi ro ops ops.toList T.reset H D
  |true=>exact kj P self fi ops T.reset H D
 |seq a b iha ihb=>
  intro T H D
  show qU (bK P self fi ro b) (bK P self fi ro a T H D)=_
  rw [mL,iha]
  conv=>rhs;unfold aA
  cases aA P self fi ro a T H D with
  |none=>rfl
  |some p=>
   obtain ⟨x,T,H,D⟩:=p;cases x with
   |normal=>exact ihb T H D
   |_=>rfl
 |cond c a b iha ihb=>
  intro T H D
  show rV (bK P self fi ro a) (bK P self fi ro b) T H D (jJ fi T c)=_
  rw [cS];unfold rV
  conv=>rhs;unfold aA
  cases bY fi T c with
  |bool x=>cases x with
   |true=>exact iha T H D
   |false=>exact ihb T H D
  |_=>rfl
 |block id c ih=>
  intro T H D
  show lL id (bK P self fi ro c T H D)=_
  rw [mV,ih]
  conv=>rhs;unfold aA
  rfl
 |loop c ih=>
  intro T H D
  show qU (self.code fi ro (.loop c)) (bK P self fi ro c T H D)=_
  rw [mL,ih]
  conv=>rhs;unfold aA
  rfl
 |rangeFunc f ps asg body _ _=>intro T H D;rfl
 |exit id=>intro T H D;rfl
 |scope c ih=>intro T H D;exact ih T H D
 |label l=>intro T H D;rfl
 |goto l=>intro T H D;rfl
 |ret=>intro T H D;rfl
 |refuse s=>intro T H D;rfl
noncomputable def lU (P:Program) (hint:Hint) (self:Self) (fi:FI) (fn:Func) (x:X) (p:En×IH×List Deferred):Option (End×IH):=
 @X.rec (fun _=>Option (End×IH)) (bL P hint self fi fn p.1 p.2.2 .returning p.2.1) (fun _=>none) (bL P hint self fi fn p.1 p.2.2 .returning p.2.1) (fun v=>bL P hint self fi fn p.1 p.2.2 (.panicking v false) p.2.1) x
noncomputable def mm (P:Program) (hint:Hint) (self:Self) (fi:FI) (fn:Func) (r:bw):Option (End×IH):=
 @Option.rec (X×En×IH×List Deferred) (fun _=>Option (End×IH)) none (fun p=>lU P hint self fi fn p.1 p.2) r
noncomputable def ou (P:Program) (hint:Hint) (self:Self) (f:FuncId) (args:List Value) (H:IH) (fn:Func) (c:Code):Option (End×IH):=
 @Bool.rec (fun _=>Option (End×IH)) none (mm P hint self (e8 hint f fn) fn (bK P self (e8 hint f fn) none c (bC args) H [])) (fits fn args)
noncomputable def jd (P:Program) (hint:Hint) (self:Self) (f:FuncId) (args:List Value) (H:IH):Option (End×IH):=
 @Option.rec Func (fun _=>Option (End×IH)) none (fun fn=>@Option.rec Code (fun _=>Option (End×IH)) none (ou P hint self f args H fn) fn.body) P.funcs[f]?
theorem kc (P:Program) (hint:Hint) (self:Self) (f:FuncId) (args:List Value) (H:IH):jd P hint self f args H=dS P hint self f args H:=by
 unfold jd dS;cases P.funcs[f]? with
 |none=>rfl
 |some fn=>
  simp only;cases fn.body with
  |none=>rfl
  |some c=>
   simp only [ou,cM,gA];split
   ·unfold mm lU
    cases aA P self (e8 hint f fn) none c (bC args) H [] with
    |none=>rfl
    |some p=>obtain ⟨x,T,H,D⟩:=p;cases x<;>rfl
   ·rfl
noncomputable def eK (P:Program) (hint:Hint) (spec:Spec) (self:Self) (f:FuncId) (args:List Value) (H:IH):Option (End×IH):=
 @Option.rec (End×IH) (fun _=>Option (End×IH)) (jd P hint self f args H) some (spec f args H)
theorem ju (P:Program) (hint:Hint) (spec:Spec) (self:Self) (f:FuncId) (args:List Value) (H:IH):eK P hint spec self f args H=ct P hint spec self f args H:=by
 unfold eK ct;cases spec f args H with
 |none=>exact kc P hint self f args H
 |some r=>rfl
noncomputable def bW (P:Program) (hint:Hint) (spec:Spec) (n:Nat):Self:=
 @Nat.rec (fun _=>Self) ⟨fun _ _ _ _ _ _=>none,fun _ _ _=>none⟩ (fun _ s=>⟨bK P s,eK P hint spec s⟩) n
theorem kH (P:Program) (hint:Hint) (spec:Spec):∀ n,bW P hint spec n=ev P hint spec n:=by
 intro n
 induction n with
 |zero=>rfl
 |succ n ih=>
  show Self.mk (bK P (bW P hint spec n)) (eK P hint spec (bW P hint spec n))=⟨aA P (ev P hint spec n),ct P hint spec (ev P hint spec n)⟩
  rw [ih]
  congr 1
  ·funext fi ro c T H D;exact gA P _ fi ro c T H D
  ·funext f args H;exact ju P hint spec _ f args H
end Go.Iv
