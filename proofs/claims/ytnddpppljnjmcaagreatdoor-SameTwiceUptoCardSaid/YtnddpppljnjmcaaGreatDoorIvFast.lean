/- The same evaluator in a form that the kernel runs fast: each choice by the type's own recursor, each branch a small closed piece. -/
import Derived.Test.YtnddpppljnjmcaaGreatDoorIvFastA
set_option linter.unusedSimpArgs false
set_option linter.unusedVariables false
namespace Go.Iv
open Go
noncomputable def aggF (H:IH) (r:Option (List Value)):Option OpRes:=@Option.rec (List Value) (fun _=>Option OpRes) none (fun l=>some (.val (.agg ⟨l⟩) H)) r
noncomputable def buildS (P:Program) (H:IH) (t:TypeId) (ps:List (Nat×Value)) (z:Value):Option OpRes:=
 match P.underlying t with
 |some (.struct fs)=>match placesOf P fs.toList with
  |some places=>aggF H (fillF (fun i=>places[i]?) z.cells.size ps z.cells.toList)
  |none=>none
 |some (.array _ e)=>match P.info? e with
  |some i=>aggF H (fillF (fun j=>some (j*i.size,i.size)) z.cells.size ps z.cells.toList)
  |none=>none
 |_=>none
noncomputable def evBuildF (P:Program) (H:IH) (t:TypeId) (ps:List (Nat×Value)):Option OpRes:=
 @Bool.rec (fun _=>Option OpRes) none (@Option.rec Value (fun _=>Option OpRes) none (buildS P H t ps) (zeroOf P t)) (ps.all fun p=>okv p.2)
theorem evBuildF_eq (P:Program) (H:IH) (t:TypeId) (ps:List (Nat×Value)):evBuildF P H t ps=evBuild P H t ps:=by
 have agg:∀ (pl:Nat→Option (Nat×Nat)) (cs:Array Value),aggF H (fillF pl cs.size ps cs.toList)=(match Instr.fill pl cs ps with |some cells=>some (.val (.agg cells) H) |none=>none):=by
  intro pl cs
  rw [fill_eq]
  cases fillF pl cs.size ps cs.toList<;>rfl
 unfold evBuildF evBuild
 cases ps.all fun p=>okv p.2 with
 |false=>rfl
 |true=>
  simp only [if_true]
  cases zeroOf P t with
  |none=>rfl
  |some z=>
   simp only [buildS]
   cases P.underlying t with
   |none=>rfl
   |some d=>
    cases d with
    |struct fs=>
     simp only
     cases placesOf P fs.toList with
     |none=>rfl
     |some places=>simp only;rw [agg];rfl
    |array n e=>
     simp only
     cases P.info? e with
     |none=>rfl
     |some i=>simp only;rw [agg];rfl
    |_=>rfl
noncomputable def slcF (H:IH) (e:TypeId) (len:Nat) (r:Option (List Value)):Option OpRes:=@Option.rec (List Value) (fun _=>Option OpRes) none (fun l=>some (.val (.slice (some ⟨H.n,0,none⟩) len len) (newCells H e l))) r
noncomputable def evBuildSliceF (P:Program) (H:IH) (t:TypeId) (len:Nat) (ps:List (Nat×Value)):Option OpRes:=
 match elemSize P t with
 |some (e,i)=>
  if len*(i.size+1)≤2^24 &&ps.all (fun p=>okv p.2) then
   match zeroOf P e with
   |some z=>
    if z.cells.size=i.size then slcF H e len (fillF (fun j=>some (j*i.size,i.size)) (reps z.cells.toList len).length ps (reps z.cells.toList len)) else none
   |none=>none
  else none
 |none=>none
theorem evBuildSliceF_eq (P:Program) (H:IH) (t:TypeId) (len:Nat) (ps:List (Nat×Value)):evBuildSliceF P H t len ps=evBuildSlice P H t len ps:=by
 have slc:∀ (pl:Nat→Option (Nat×Nat)) (e:TypeId) (cs:List Value),slcF H e len (fillF pl cs.length ps cs)=(match Instr.fill pl ⟨cs⟩ ps with |some cells=>some (OpRes.val (.slice (some ⟨H.n,0,none⟩) len len) (newCells H e cells.toList)) |none=>none):=by
  intro pl e cs
  rw [fill_eq]
  show _=(match (fillF pl cs.length ps cs).map fun l=>(⟨l⟩:Array Value) with |some cells=>some (OpRes.val (.slice (some ⟨H.n,0,none⟩) len len) (newCells H e cells.toList)) |none=>none)
  cases fillF pl cs.length ps cs<;>rfl
 unfold evBuildSliceF evBuildSlice
 cases elemSize P t with
 |none=>rfl
 |some ei=>
  obtain ⟨e,i⟩:=ei
  simp only
  split
  ·cases zeroOf P e with
   |none=>rfl
   |some z=>
    simp only
    split
    ·exact slc _ _ _
    ·rfl
  ·rfl
noncomputable def cellsF (n off:Nat) (o:Option IObj):Option (List Value):=
 match o with
 |some (.cells cs _ _ _ _)=>takeE n (dropF off cs)
 |_=>none
theorem cellsF_eq (H:IH) (b off n:Nat) (hn:n≠0):cellsF n off (H.get b)=H.cellsAt b off n:=by
 unfold cellsF IH.cellsAt
 cases H.get b with
 |none=>rfl
 |some o=>
  cases o with
  |cells cs e fz ex sh=>
   simp only
   rw [takeE_eq,dropF_eq]
   by_cases h:off+n≤cs.length
   ·rw [if_pos (by simp;omega),if_pos h]
   ·rw [if_neg (by simp;omega),if_neg h]
  |_=>rfl
noncomputable def cellF (off:Nat) (o:Option IObj):Option Value:=
 match o with
 |some (.cells cs _ _ _ _)=>nthF cs off
 |_=>none
noncomputable def aggV (r:Option (List Value)):Option Value:=@Option.rec (List Value) (fun _=>Option Value) none (fun l=>some (.agg ⟨l⟩)) r
noncomputable def ldF (P:Program) (H:IH) (t:TypeId) (b off:Nat):Option Value:=
 match isAggB P t with
 |some true=>match P.info? t with
  |some i=>@Bool.rec (fun _=>Option Value) (aggV (cellsF i.size off (H.get b))) (ldVar P H t b off) (Nat.beq i.size 0)
  |none=>none
 |some false=>cellF off (H.get b)
 |none=>none
theorem ldF_eq (P:Program) (H:IH) (t:TypeId) (b off:Nat):ldF P H t b off=ldVar P H t b off:=by
 unfold ldF ldVar
 cases isAggB P t with
 |none=>rfl
 |some x=>
  cases x with
  |true=>
   simp only
   cases P.info? t with
   |none=>rfl
   |some i=>
    simp only
    cases hz:Nat.beq i.size 0 with
    |true=>rfl
    |false=>
     simp only
     rw [cellsF_eq H b off i.size (Nat.ne_of_beq_eq_false hz)]
     unfold aggV
     cases H.cellsAt b off i.size<;>rfl
  |false=>
   simp only
   unfold cellF
   cases H.get b with
   |none=>rfl
   |some o=>
    cases o with
    |cells cs e fz ex sh=>exact nthF_eq cs off
    |_=>rfl
noncomputable def putCs (H:IH) (b:Nat) (e:TypeId) (fz:Nat) (ex sh:Bool) (r:Option (List Value)):Option IH:=@Option.rec (List Value) (fun _=>Option IH) none (fun cs=>some (H.put b (.cells cs e fz ex sh))) r
noncomputable def st1 (H:IH) (b off:Nat) (v:Value):Option IH:=
 match H.get b with
 |some (.cells cs e fz ex sh)=>@Bool.rec (fun _=>Option IH) none (putCs H b e fz ex sh (set1 off v cs)) (andF (Nat.ble roN b) (andF (Nat.ble fz off) (one v)))
 |_=>none
theorem ble_decide (a b:Nat):Nat.ble a b=decide (a≤b):=by
 cases h:Nat.ble a b with
 |true=>exact (decide_eq_true (Nat.le_of_ble_eq_true h)).symm
 |false=>exact (decide_eq_false fun x=>by rw [Nat.ble_eq_true_of_le x] at h;cases h).symm
theorem st1_eq (H:IH) (b off:Nat) (v:Value):st1 H b off v=H.stCells b off [v]:=by
 unfold st1 IH.stCells
 simp only [List.isEmpty_cons,Bool.false_eq_true,if_false]
 cases H.get b with
 |none=>rfl
 |some o=>
  cases o with
  |cells cs e fz ex sh=>
   simp only [andF_eq,ble_decide,set1_eq,putCs,List.length_singleton,List.all_cons,List.all_nil,Bool.and_true]
   by_cases h1:roN≤b<;>by_cases h2:fz≤off<;>by_cases h3:off+1≤cs.length<;>cases one v<;>simp [h1,h2,h3]
  |_=>rfl
noncomputable def skipF (r:Option IH):Option OpRes:=@Option.rec IH (fun _=>Option OpRes) none (fun H=>some (.skip H)) r
noncomputable def stF (P:Program) (H:IH) (t:TypeId) (v:Value) (b off:Nat):Option OpRes:=
 match isAggB P t with
 |some false=>match P.info? t,v with
  |some i,.agg cs=>skipF (if cs.size=i.size then H.stCells b off cs.toList else none)
  |some i,v=>@Bool.rec (fun _=>Option OpRes) none (skipF (st1 H b off v)) (Nat.beq i.size 1)
  |none,_=>none
 |_=>skipF (stVar P H t b off v)
theorem stF_eq (P:Program) (H:IH) (t:TypeId) (v:Value) (b off:Nat):stF P H t v b off=(match stVar P H t b off v with |some H=>some (.skip H) |none=>none):=by
 have sk:∀ r:Option IH,skipF r=(match r with |some H=>some (.skip H) |none=>none):=fun r=>by cases r<;>rfl
 have one_:∀ (i:TypeInfo) (v:Value),P.info? t=some i→v.cells=#[v]→@Bool.rec (fun _=>Option OpRes) none (skipF (st1 H b off v)) (Nat.beq i.size 1)=(match stVar P H t b off v with |some H=>some (.skip H) |none=>none):=by
  intro i v hi hc
  unfold stVar
  rw [hi]
  simp only [hc,st1_eq,sk]
  cases hz:Nat.beq i.size 1 with
  |true=>
   have:=Nat.eq_of_beq_eq_true hz
   rw [if_pos (by simpa using this.symm)]
  |false=>
   have:=Nat.ne_of_beq_eq_false hz
   rw [if_neg (by simpa using fun e:1=i.size=>this e.symm)]
 unfold stF
 cases isAggB P t with
 |none=>exact sk _
 |some x=>
  cases x with
  |true=>exact sk _
  |false=>
   simp only
   cases hi:P.info? t with
   |none=>
    have:stVar P H t b off v=none:=by unfold stVar;rw [hi]
    rw [this]
   |some i=>
    cases v with
    |agg cs=>
     show skipF _=_
     rw [sk];unfold stVar;rw [hi];rfl
    |_=>exact one_ i _ hi rfl
noncomputable def evLoadF (P:Program) (H:IH) (t:TypeId) (a:Value):Option OpRes:=
 match a with
 | .pointer (some ⟨b,off,none⟩)=>@Option.rec Value (fun _=>Option OpRes) none (fun v=>some (.val v H)) (ldF P H t b off)
 |_=>none
theorem evLoadF_eq (P:Program) (H:IH) (t:TypeId) (a:Value):evLoadF P H t a=evLoad P H t a:=by
 unfold evLoadF evLoad
 cases a with
 |pointer p=>
  cases p with
  |none=>rfl
  |some ad=>
   obtain ⟨b,off,sp⟩:=ad
   cases sp with
   |none=>simp only;rw [ldF_eq];cases ldVar P H t b off<;>rfl
   |some _=>rfl
 |_=>rfl
noncomputable def evStoreF (P:Program) (H:IH) (t:TypeId) (a v:Value):Option OpRes:=
 match a with
 | .pointer (some ⟨b,off,none⟩)=>stF P H t v b off
 |_=>none
theorem evStoreF_eq (P:Program) (H:IH) (t:TypeId) (a v:Value):evStoreF P H t a v=evStore P H t a v:=by
 unfold evStoreF evStore
 cases a with
 |pointer p=>
  cases p with
  |none=>rfl
  |some ad=>
   obtain ⟨b,off,sp⟩:=ad
   cases sp with
   |none=>exact stF_eq P H t v b off
   |some _=>rfl
 |_=>rfl
noncomputable def idxF (i:Int) (n:Nat):Option Nat:=@Int.rec (fun _=>Option Nat) (fun a=>@Bool.rec (fun _=>Option Nat) none (some a) (Nat.ble (Nat.succ a) n)) (fun _=>none) i
theorem idxF_eq (i:Int) (n:Nat):idxF i n=if 0≤i &&i<(n:Int) then some i.toNat else none:=by
 cases i with
 |ofNat a=>
  show @Bool.rec (fun _=>Option Nat) none (some a) (Nat.ble (Nat.succ a) n)=_
  rw [ble_decide]
  by_cases h:a<n
  ·rw [decide_eq_true (show Nat.succ a≤n from h)];simp [h]
  ·rw [decide_eq_false (show ¬ Nat.succ a≤n from h)];simp [h]
 |negSucc a=>simp [idxF]
noncomputable def ptrAt (H:IH) (b off size:Nat) (r:Option Nat):Option OpRes:=@Option.rec Nat (fun _=>Option OpRes) none (fun i=>some (.val (.pointer (some ⟨b,Nat.add off (Nat.mul i size),none⟩)) H)) r
noncomputable def evIndexAddrF (P:Program) (H:IH) (t:TypeId) (x ix:Value):Option OpRes:=
 match P.underlying t,x,ix with
 |some (.array n e),.pointer (some ⟨b,off,none⟩),.int _ i=>match P.info? e with
  |some inf=>ptrAt H b off inf.size (idxF i n)
  |none=>none
 |some (.slice e),.slice (some ⟨b,off,none⟩) len _,.int _ i=>match P.info? e with
  |some inf=>ptrAt H b off inf.size (idxF i len)
  |none=>none
 |_,_,_=>none
theorem evIndexAddrF_eq (P:Program) (H:IH) (t:TypeId) (x ix:Value):evIndexAddrF P H t x ix=evIndexAddr P H t x ix:=by
 have pt:∀ (b off size n:Nat) (i:Int),ptrAt H b off size (idxF i n)=if 0≤i &&i<(n:Int) then some (.val (.pointer (some ⟨b,off+i.toNat*size,none⟩)) H) else none:=by
  intro b off size n i
  rw [idxF_eq]
  split<;>rfl
 unfold evIndexAddrF evIndexAddr
 simp only [pt]
 rfl
section ops
variable (P:Program) (self:Self)
noncomputable def hNo (_:Operand→Value) (_:IH):Option OpRes:=none
noncomputable def hMove (x:Operand) (ρ:Operand→Value) (H:IH):Option OpRes:=some (.val (ρ x) H)
noncomputable def hPick (c a b:Operand) (ρ:Operand→Value) (H:IH):Option OpRes:=evPick H (ρ c) (ρ a) (ρ b)
noncomputable def hAlloc (e:TypeId) (_:Operand→Value) (H:IH):Option OpRes:=evAlloc P H e
noncomputable def hBox (e:TypeId) (x:Operand) (ρ:Operand→Value) (H:IH):Option OpRes:=evBox H e (ρ x)
noncomputable def hBuild (t:TypeId) (parts:Array (Nat×Operand)) (ρ:Operand→Value) (H:IH):Option OpRes:=evBuildF P H t (parts.toList.map fun p=>(p.1,ρ p.2))
noncomputable def hBuildSlice (t:TypeId) (len:Nat) (parts:Array (Nat×Operand)) (ρ:Operand→Value) (H:IH):Option OpRes:=evBuildSliceF P H t len (parts.toList.map fun p=>(p.1,ρ p.2))
noncomputable def hMapUpd (t:TypeId) (m k v:Operand) (ρ:Operand→Value) (H:IH):Option OpRes:=evMapUpd P H t (ρ m) (ρ k) (ρ v)
noncomputable def hLoad (t:TypeId) (a:Operand) (ρ:Operand→Value) (H:IH):Option OpRes:=evLoadF P H t (ρ a)
noncomputable def hStore (t:TypeId) (a v:Operand) (ρ:Operand→Value) (H:IH):Option OpRes:=evStoreF P H t (ρ a) (ρ v)
noncomputable def hNil (x:Operand) (ρ:Operand→Value) (H:IH):Option OpRes:=evNilCheck H (ρ x)
noncomputable def b2 (f:IntKind→Int→Int→Value) (alt:Option OpRes) (H:IH) (a b:Value):Option OpRes:=
 match a,b with
 | .int k n,.int k' m=>if k=k' then some (.val (f k n m) H) else none
 |_,_=>alt
noncomputable def bGen (op:BinOp) (t:TypeId) (x y:Operand) (a b:Value) (H:IH):Option OpRes:=evBin P H op t x y a b
noncomputable def bAdd (t:TypeId) (x y:Operand) (a b:Value) (H:IH):Option OpRes:=b2 (fun k n m=> .int k (wrapF k (addI n m))) (evBin P H .add t x y a b) H a b
noncomputable def bSub (t:TypeId) (x y:Operand) (a b:Value) (H:IH):Option OpRes:=b2 (fun k n m=> .int k (wrapF k (n - m))) (evBin P H .sub t x y a b) H a b
noncomputable def bLss (t:TypeId) (x y:Operand) (a b:Value) (H:IH):Option OpRes:=b2 (fun _ n m=> .bool (ilt n m)) (evBin P H .lss t x y a b) H a b
noncomputable def bLeq (t:TypeId) (x y:Operand) (a b:Value) (H:IH):Option OpRes:=b2 (fun _ n m=> .bool (ile n m)) (evBin P H .leq t x y a b) H a b
noncomputable def bGtr (t:TypeId) (x y:Operand) (a b:Value) (H:IH):Option OpRes:=b2 (fun _ n m=> .bool (ilt m n)) (evBin P H .gtr t x y a b) H a b
noncomputable def bGeq (t:TypeId) (x y:Operand) (a b:Value) (H:IH):Option OpRes:=b2 (fun _ n m=> .bool (ile m n)) (evBin P H .geq t x y a b) H a b
noncomputable def bEql (t:TypeId) (x y:Operand) (a b:Value) (H:IH):Option OpRes:=b2 (fun _ n m=> .bool (n==m)) (evBin P H .eql t x y a b) H a b
noncomputable def bNeq (t:TypeId) (x y:Operand) (a b:Value) (H:IH):Option OpRes:=b2 (fun _ n m=> .bool (n !=m)) (evBin P H .neq t x y a b) H a b
noncomputable def hBin (op:BinOp) (t:TypeId) (x y:Operand) (_:TypeId) (ρ:Operand→Value) (H:IH):Option OpRes:=
 @BinOp.rec (fun _=>TypeId→Operand→Operand→Value→Value→IH→Option OpRes) (bAdd P) (bSub P) (bGen P .mul) (bGen P .quo) (bGen P .rem) (bGen P .and) (bGen P .or) (bGen P .xor) (bGen P .shl) (bGen P .shr) (bGen P .andNot)
  (bEql P) (bNeq P) (bLss P) (bLeq P) (bGtr P) (bGeq P) op t x y (ρ x) (ρ y) H
theorem hBin_eq (op:BinOp) (t:TypeId) (x y:Operand) (yt:TypeId) (ρ:Operand→Value) (H:IH):hBin P op t x y yt ρ H=evBin P H op t x y (ρ x) (ρ y):=by
 have key:∀ (f:IntKind→Int→Int→Value) (op:BinOp),(∀ k n m,evBin P H op t x y (.int k n) (.int k m)=some (.val (f k n m) H))→(∀ k k' n m,k≠k'→evBin P H op t x y (.int k n) (.int k' m)=none)→
   ∀ a b,b2 f (evBin P H op t x y a b) H a b=evBin P H op t x y a b:=by
  intro f op h1 h2 a b
  unfold b2
  split
  ·split
   ·rename_i h;subst h;exact (h1 _ _ _).symm
   ·rename_i h;exact (h2 _ _ _ _ h).symm
  ·rfl
 unfold hBin
 cases op
 case add=>exact key _ _ (fun k n m=>by simp only [evBin,if_true,wrapF_eq,addI_eq]) (fun k k' n m h=>by simp only [evBin,if_neg h]) _ _
 case sub=>exact key _ _ (fun k n m=>by simp only [evBin,if_true,wrapF_eq]) (fun k k' n m h=>by simp only [evBin,if_neg h]) _ _
 case lss=>exact key _ _ (fun k n m=>by simp only [evBin,if_true]) (fun k k' n m h=>by simp only [evBin,if_neg h]) _ _
 case leq=>exact key _ _ (fun k n m=>by simp only [evBin,if_true]) (fun k k' n m h=>by simp only [evBin,if_neg h]) _ _
 case gtr=>exact key _ _ (fun k n m=>by simp only [evBin,if_true]) (fun k k' n m h=>by simp only [evBin,if_neg h]) _ _
 case geq=>exact key _ _ (fun k n m=>by simp only [evBin,if_true]) (fun k k' n m h=>by simp only [evBin,if_neg h]) _ _
 case eql=>exact key _ _ (fun k n m=>by simp [evBin,evEqOp]) (fun k k' n m h=>by simp [evBin,evEqOp,h]) _ _
 case neq=>exact key _ _ (fun k n m=>by simp [evBin,evEqOp]) (fun k k' n m h=>by simp [evBin,evEqOp,h]) _ _
 all_goals rfl
noncomputable def hUn (op:UnOp) (_:TypeId) (x:Operand) (ρ:Operand→Value) (H:IH):Option OpRes:=evUn P H op (ρ x)
noncomputable def hConv (s d:TypeId) (x:Operand) (ρ:Operand→Value) (H:IH):Option OpRes:=evConvert P H s d (ρ x)
noncomputable def hMkI (t:TypeId) (x:Operand) (ρ:Operand→Value) (H:IH):Option OpRes:=evMakeIface P H t (ρ x)
noncomputable def hMkF (fn:Fn) (a c:Array Operand) (ρ:Operand→Value) (H:IH):Option OpRes:=if plainFn fn then some (.val (.func fn ⟨a.toList.map ρ⟩ ⟨c.toList.map ρ⟩) H) else none
noncomputable def hMkM (t:TypeId) (r:Option Operand) (ρ:Operand→Value) (H:IH):Option OpRes:=evMakeMap P H t (r.map ρ)
noncomputable def hMkS (t:TypeId) (l c:Operand) (ρ:Operand→Value) (H:IH):Option OpRes:=evMakeSlice P H t (ρ l) (ρ c)
noncomputable def hSlice (t:TypeId) (x:Operand) (lo hi mx:Option Operand) (ρ:Operand→Value) (H:IH):Option OpRes:=evSlice P H t (ρ x) (lo.map ρ) (hi.map ρ) (mx.map ρ)
noncomputable def hFA (s:TypeId) (x:Operand) (f:Nat) (ρ:Operand→Value) (H:IH):Option OpRes:=evFieldAddr P H s (ρ x) f
noncomputable def hFd (s:TypeId) (x:Operand) (f:Nat) (ρ:Operand→Value) (H:IH):Option OpRes:=evField P H s (ρ x) f
noncomputable def hIA (t:TypeId) (x i:Operand) (ρ:Operand→Value) (H:IH):Option OpRes:=evIndexAddrF P H t (ρ x) (ρ i)
noncomputable def hIx (t:TypeId) (x i:Operand) (ρ:Operand→Value) (H:IH):Option OpRes:=evIndex P H t (ρ x) (ρ i)
noncomputable def hLk (t:TypeId) (x k:Operand) (ok:Bool) (ρ:Operand→Value) (H:IH):Option OpRes:=evLookup P H t (ρ x) (ρ k) ok
noncomputable def hRange (t:TypeId) (x:Operand) (ρ:Operand→Value) (H:IH):Option OpRes:=evRange P H t (ρ x)
noncomputable def hNext (x:Operand) (s:Bool) (ρ:Operand→Value) (H:IH):Option OpRes:=@Bool.rec (fun _=>Option OpRes) none (evNext H (ρ x)) s
noncomputable def hTA (x:Operand) (_ asserted:TypeId) (ok:Bool) (ρ:Operand→Value) (H:IH):Option OpRes:=evTypeAssert P H (ρ x) asserted ok
noncomputable def hEx (x:Operand) (i:Nat) (ρ:Operand→Value) (H:IH):Option OpRes:=evExtract H (ρ x) i
noncomputable def hPanic (x:Operand) (ρ:Operand→Value) (H:IH):Option OpRes:=evPanic H (ρ x)
noncomputable def hDefer (c:Call) (ρ:Operand→Value) (H:IH):Option OpRes:=
 match c.callee with
 | .value f=>evDefer H (ρ f) (c.args.toList.map ρ)
 |_=>none
noncomputable def callV (args:List Value) (H:IH) (fv:Value):Option OpRes:=
 match fv with
 | .func (.yield l) _ _=>match evYield self l args H with
  |some (v,H)=>some (.val v H)
  |none=>none
 |fv=>endRes (evInvoke P self H fv args)
noncomputable def cBi (args:Array Operand) (argTypes:Array TypeId) (ty:TypeId) (ρ:Operand→Value) (H:IH) (b:Builtin):Option OpRes:=evBuiltin P H b argTypes ty (args.toList.map ρ)
noncomputable def cVal (args:Array Operand) (ρ:Operand→Value) (H:IH) (f:Operand):Option OpRes:=callV P self (args.toList.map ρ) H (ρ f)
noncomputable def hCall (ty:TypeId) (c:Call) (ρ:Operand→Value) (H:IH):Option OpRes:=
 @Callee.rec (fun _=>Option OpRes) (cVal P self c.args ρ H) (fun _ _=>none) (cBi P c.args c.argTypes ty ρ H) c.callee
noncomputable def evOpF (ρ:Operand→Value) (H:IH) (o:Oper):Option OpRes:=
 @Op.rec (fun _=>(Operand→Value)→IH→Option OpRes)
  hMove hMove hPick (hAlloc P) hBox (hBuild P) (hBuildSlice P) (hMapUpd P) (hLoad P) (hStore P) (fun _=>hNo) (fun _=>hNo) hNil (hBin P) (hUn P) (hConv P) (fun _ _=>hNo) (hMkI P) hMkF (hMkM P) (fun _ _=>hNo) (hMkS P) (hSlice P) (hFA P) (hFd P) (hIA P) (hIx P) (hLk P)
  (hMapUpd P) (fun _ _ _=>hNo) (fun _ _ _ _=>hNo) (hRange P) hNext (fun _=>hNo) (hTA P) hEx (hCall P self o.type) (fun _=>hNo) hDefer hPanic (fun _ _=>hNo) (fun _ _ _=>hNo) (fun _ _=>hNo) o.op ρ H
theorem evOpF_eq (ρ:Operand→Value) (H:IH) (o:Oper):evOpF P self ρ H o=evOp P self ρ H o:=by
 obtain ⟨dst,op,type,pos,after,guard⟩:=o
 cases op
 case binOp op t x y yt=>exact hBin_eq P op t x y yt ρ H
 case next x s=>cases s<;>rfl
 case build t ps=>exact evBuildF_eq P H t _
 case buildSlice t n ps=>exact evBuildSliceF_eq P H t n _
 case load t a=>exact evLoadF_eq P H t _
 case store t a v=>exact evStoreF_eq P H t _ _
 case indexAddr t x i=>exact evIndexAddrF_eq P H t _ _
 case call c=>
  obtain ⟨callee,args,ats⟩:=c
  cases callee with
  |value f=>
   show callV P self (args.toList.map ρ) H (ρ f)=evCallOp P self ρ H ⟨.value f,args,ats⟩ type
   unfold callV evCallOp
   rfl
  |invoke r n=>rfl
  |builtin b=>rfl
 all_goals rfl
end ops
noncomputable def wantF (want:Bool) (v:Value):Option Bool:=
 match v with
 | .bool b=>some (b==want)
 | .chan _=>none
 |_=>some false
noncomputable def wantG (fi:FI) (ops:Array Oper) (E:En) (g:Nat×Bool):Option Bool:=
 @Option.rec Nat (fun _=>Option Bool) (some false) (fun d=>wantF g.2 (lkEF fi E d)) ((ops[g.1]?).bind (·.dst))
theorem wantG_eq (fi:FI) (ops:Array Oper) (E:En) (o:Oper) (g:Nat×Bool) (h:o.guard=some g):wantG fi ops E g=wantedI fi ops E o:=by
 obtain ⟨j,b⟩:=g
 unfold wantG wantedI
 rw [h]
 simp only
 cases (ops[j]?).bind (·.dst) with
 |none=>rfl
 |some d=>simp only [lkEF_eq];rfl
noncomputable def gF {R:Type} (no:R) (fi:FI) (ops:Array Oper) (E:En) (o:Oper) (a b:R):R:=
 @Option.rec (Nat×Bool) (fun _=>R) a (fun g=>@Option.rec Bool (fun _=>R) no (fun w=>@Bool.rec (fun _=>R) b a w) (wantG fi ops E g)) o.guard
theorem gF_eq {R:Type} (no:R) (fi:FI) (ops:Array Oper) (E:En) (o:Oper) (a b:R):gF no fi ops E o a b=(match wantedI fi ops E o with |some true=>a |some false=>b |none=>no):=by
 unfold gF
 cases hg:o.guard with
 |none=>simp only [wantedI,hg]
 |some g=>
  simp only [wantG_eq fi ops E o g hg]
  cases wantedI fi ops E o with
  |none=>rfl
  |some w=>cases w<;>rfl
abbrev Nx:=AL→AL→IH→List Deferred→Res
noncomputable def lkG (fi:FI) (loc tmp:AL) (t:Nat):Value:=@Cls.rec (fun _=>Value) poison (lkF loc t) (lkF tmp t) (clsF fi t)
noncomputable def opdG (fi:FI) (loc tmp:AL) (x:Operand):Value:=@Operand.rec (fun _=>Value) (lkG fi loc tmp) conF gloF funF x
theorem opdG_eq (fi:FI) (loc tmp:AL):opdG fi loc tmp=opd fi ⟨loc,tmp⟩:=opdF_eq fi ⟨loc,tmp⟩
noncomputable def putD (fi:FI) (next:Nx) (loc tmp:AL) (H:IH) (D:List Deferred) (v:Value) (d:Nat):Res:=
 @Cls.rec (fun _=>Res) (next loc tmp H D) (next (updF loc d v) tmp H D) (next loc (.c d v tmp) H D) (clsF fi d)
noncomputable def putG (fi:FI) (dst:Option Tmp) (next:Nx) (loc tmp:AL) (H:IH) (D:List Deferred) (v:Value):Res:=
 @Option.rec Nat (fun _=>Res) (next loc tmp H D) (putD fi next loc tmp H D v) dst
theorem putG_eq (fi:FI) (dst:Option Tmp) (N:En→IH→List Deferred→Res) (loc tmp:AL) (H:IH) (D:List Deferred) (v:Value):
  putG fi dst (fun l t=>N ⟨l,t⟩) loc tmp H D v=N (putT fi ⟨loc,tmp⟩ dst v) H D:=by
 cases dst with
 |none=>rfl
 |some d=>
  show @Cls.rec (fun _=>Res) (N ⟨loc,tmp⟩ H D) (N ⟨updF loc d v,tmp⟩ H D) (N ⟨loc,.c d v tmp⟩ H D) (clsF fi d)=N (putE fi d v ⟨loc,tmp⟩) H D
  unfold putE
  rw [updF_eq,clsF_eq]
  cases cls fi d<;>rfl
noncomputable def kG (fi:FI) (ro:Option Nat) (dst:Option Tmp) (next:Nx) (loc tmp:AL) (D:List Deferred) (r:Option OpRes):Res:=
 @Option.rec OpRes (fun _=>Res) none (fun r=>@OpRes.rec (fun _=>Res) (fun v H=>putG fi dst next loc tmp H D v) (fun H=>putG fi dst next loc tmp H D undef)
  (fun d H=>if ro.isNone then putG fi dst next loc tmp H (d::D) undef else none) (fun v H=>some (.panic v,⟨loc,tmp⟩,H,D)) r) r
noncomputable def kV (fi:FI) (_ro:Option Nat) (dst:Option Tmp) (next:Nx) (loc tmp:AL) (H:IH) (D:List Deferred) (r:Option Value):Res:=
 @Option.rec Value (fun _=>Res) none (putG fi dst next loc tmp H D) r
section step
variable (P:Program) (self:Self)
noncomputable def sMove (x:Operand) (fi:FI) (_ro:Option Nat) (dst:Option Tmp) (next:Nx) (loc tmp:AL) (H:IH) (D:List Deferred):Res:=putG fi dst next loc tmp H D (opdG fi loc tmp x)
noncomputable def sVia (h:(Operand→Value)→IH→Option OpRes) (fi:FI) (ro:Option Nat) (dst:Option Tmp) (next:Nx) (loc tmp:AL) (H:IH) (D:List Deferred):Res:=kG fi ro dst next loc tmp D (h (opdG fi loc tmp) H)
noncomputable def s2 (fi:FI) (ro:Option Nat) (dst:Option Tmp) (next:Nx) (loc tmp:AL) (H:IH) (D:List Deferred) (f:IntKind→Int→Int→Value) (alt:Option OpRes) (a b:Value):Res:=
 match a,b with
 | .int k n,.int k' m=>if k=k' then putG fi dst next loc tmp H D (f k n m) else none
 |_,_=>kG fi ro dst next loc tmp D alt
abbrev BinH:=TypeId→Operand→Operand→FI→Option Nat→Option Tmp→Nx→AL→AL→IH→List Deferred→Value→Value→Res
noncomputable def sGen (op:BinOp):BinH:=fun t x y fi ro dst next loc tmp H D a b=>kG fi ro dst next loc tmp D (evBin P H op t x y a b)
noncomputable def sAdd:BinH:=fun t x y fi ro dst next loc tmp H D a b=>s2 fi ro dst next loc tmp H D (fun k n m=> .int k (wrapF k (addI n m))) (evBin P H .add t x y a b) a b
noncomputable def sSub:BinH:=fun t x y fi ro dst next loc tmp H D a b=>s2 fi ro dst next loc tmp H D (fun k n m=> .int k (wrapF k (n - m))) (evBin P H .sub t x y a b) a b
noncomputable def sLss:BinH:=fun t x y fi ro dst next loc tmp H D a b=>s2 fi ro dst next loc tmp H D (fun _ n m=> .bool (ilt n m)) (evBin P H .lss t x y a b) a b
noncomputable def sLeq:BinH:=fun t x y fi ro dst next loc tmp H D a b=>s2 fi ro dst next loc tmp H D (fun _ n m=> .bool (ile n m)) (evBin P H .leq t x y a b) a b
noncomputable def sGtr:BinH:=fun t x y fi ro dst next loc tmp H D a b=>s2 fi ro dst next loc tmp H D (fun _ n m=> .bool (ilt m n)) (evBin P H .gtr t x y a b) a b
noncomputable def sGeq:BinH:=fun t x y fi ro dst next loc tmp H D a b=>s2 fi ro dst next loc tmp H D (fun _ n m=> .bool (ile m n)) (evBin P H .geq t x y a b) a b
noncomputable def sEql:BinH:=fun t x y fi ro dst next loc tmp H D a b=>s2 fi ro dst next loc tmp H D (fun _ n m=> .bool (n==m)) (evBin P H .eql t x y a b) a b
noncomputable def sNeq:BinH:=fun t x y fi ro dst next loc tmp H D a b=>s2 fi ro dst next loc tmp H D (fun _ n m=> .bool (n !=m)) (evBin P H .neq t x y a b) a b
noncomputable def sBin (op:BinOp) (t:TypeId) (x y:Operand) (_:TypeId) (fi:FI) (ro:Option Nat) (dst:Option Tmp) (next:Nx) (loc tmp:AL) (H:IH) (D:List Deferred):Res:=
 @BinOp.rec (fun _=>BinH) (sAdd P) (sSub P) (sGen P .mul) (sGen P .quo) (sGen P .rem) (sGen P .and) (sGen P .or) (sGen P .xor) (sGen P .shl) (sGen P .shr) (sGen P .andNot)
  (sEql P) (sNeq P) (sLss P) (sLeq P) (sGtr P) (sGeq P) op t x y fi ro dst next loc tmp H D (opdG fi loc tmp x) (opdG fi loc tmp y)
noncomputable def sLoad (t:TypeId) (a:Operand) (fi:FI) (ro:Option Nat) (dst:Option Tmp) (next:Nx) (loc tmp:AL) (H:IH) (D:List Deferred):Res:=
 match opdG fi loc tmp a with
 | .pointer (some ⟨b,off,none⟩)=>kV fi ro dst next loc tmp H D (ldF P H t b off)
 |_=>none
noncomputable def lenV (t:TypeId) (H:IH) (x:Value):Option Value:=
 match P.underlying t,x with
 |some (.slice _),.slice _ n _=>some (.int .i64 (.ofNat n))
 |_,x=>evLen P H t x
theorem lenV_eq (t:TypeId) (H:IH) (x:Value):lenV P t H x=evLen P H t x:=by
 unfold lenV
 split
 ·rename_i e a n c hu
  unfold evLen
  rw [hu]
  rfl
 ·rfl
noncomputable def sLen (ats:Array TypeId) (fi:FI) (ro:Option Nat) (dst:Option Tmp) (next:Nx) (loc tmp:AL) (H:IH) (D:List Deferred) (x:Operand):Res:=
 @Option.rec Nat (fun _=>Res) none (fun t=>kV fi ro dst next loc tmp H D (lenV P t H (opdG fi loc tmp x))) ats[0]?
noncomputable def sBi (args:Array Operand) (ats:Array TypeId) (ty:TypeId) (fi:FI) (ro:Option Nat) (dst:Option Tmp) (next:Nx) (loc tmp:AL) (H:IH) (D:List Deferred) (b:Builtin):Res:=
 match b,args.toList with
 | .len,[x]=>sLen P ats fi ro dst next loc tmp H D x
 |b,l=>kG fi ro dst next loc tmp D (evBuiltin P H b ats ty (l.map (opdG fi loc tmp)))
noncomputable def sCall (ty:TypeId) (c:Call) (fi:FI) (ro:Option Nat) (dst:Option Tmp) (next:Nx) (loc tmp:AL) (H:IH) (D:List Deferred):Res:=
 @Callee.rec (fun _=>Res) (fun f=>kG fi ro dst next loc tmp D (callV P self (c.args.toList.map (opdG fi loc tmp)) H (opdG fi loc tmp f))) (fun _ _=>none) (sBi P c.args c.argTypes ty fi ro dst next loc tmp H D) c.callee
noncomputable def stepG (o:Oper):FI→Option Nat→Option Tmp→Nx→AL→AL→IH→List Deferred→Res:=
 @Op.rec (fun _=>FI→Option Nat→Option Tmp→Nx→AL→AL→IH→List Deferred→Res)
  sMove sMove (fun c a b=>sVia (hPick c a b)) (fun e=>sVia (hAlloc P e)) (fun e x=>sVia (hBox e x)) (fun t ps=>sVia (hBuild P t ps)) (fun t n ps=>sVia (hBuildSlice P t n ps)) (fun t m k v=>sVia (hMapUpd P t m k v))
  (sLoad P) (fun t a v=>sVia (hStore P t a v)) (fun _=>sVia hNo) (fun _=>sVia hNo) (fun x=>sVia (hNil x)) (sBin P) (fun op t x=>sVia (hUn P op t x)) (fun s d x=>sVia (hConv P s d x)) (fun _ _=>sVia hNo) (fun t x=>sVia (hMkI P t x))
  (fun fn a c=>sVia (hMkF fn a c)) (fun t r=>sVia (hMkM P t r)) (fun _ _=>sVia hNo) (fun t l c=>sVia (hMkS P t l c)) (fun t x l h m=>sVia (hSlice P t x l h m)) (fun s x f=>sVia (hFA P s x f)) (fun s x f=>sVia (hFd P s x f)) (fun t x i=>sVia (hIA P t x i)) (fun t x i=>sVia (hIx P t x i))
  (fun t x k ok=>sVia (hLk P t x k ok)) (fun t m k v=>sVia (hMapUpd P t m k v)) (fun _ _ _=>sVia hNo) (fun _ _ _ _=>sVia hNo) (fun t x=>sVia (hRange P t x)) (fun x s=>sVia (hNext x s)) (fun _=>sVia hNo) (fun x xt t ok=>sVia (hTA P x xt t ok)) (fun x i=>sVia (hEx x i))
  (sCall P self o.type) (fun _=>sVia hNo) (fun c=>sVia (hDefer c)) (fun x=>sVia (hPanic x)) (fun _ _=>sVia hNo) (fun _ _ _=>sVia hNo) (fun _ _=>sVia hNo) o.op
theorem stepG_eq (o:Oper) (fi:FI) (ro:Option Nat) (dst:Option Tmp) (next:Nx) (loc tmp:AL) (H:IH) (D:List Deferred):stepG P self o fi ro dst next loc tmp H D=kG fi ro dst next loc tmp D (evOp P self (opd fi ⟨loc,tmp⟩) H o):=by
 rw [←opdG_eq,←evOpF_eq]
 obtain ⟨dst',op,type,pos,after,guard⟩:=o
 cases op
 case load t a=>
  show sLoad P t a fi ro dst next loc tmp H D=kG fi ro dst next loc tmp D (evLoadF P H t (opdG fi loc tmp a))
  unfold sLoad evLoadF
  cases opdG fi loc tmp a with
  |pointer p=>
   cases p with
   |none=>rfl
   |some ad=>
    obtain ⟨b,off,sp⟩:=ad
    cases sp with
    |none=>
     simp only
     cases ldF P H t b off<;>rfl
    |some _=>rfl
  |_=>rfl
 case binOp op t x y yt=>
  show sBin P op t x y yt fi ro dst next loc tmp H D=kG fi ro dst next loc tmp D (hBin P op t x y yt (opdG fi loc tmp) H)
  have key:∀ (f:IntKind→Int→Int→Value) (alt:Option OpRes) (a b:Value),s2 fi ro dst next loc tmp H D f alt a b=kG fi ro dst next loc tmp D (b2 f alt H a b):=by
   intro f alt a b
   unfold s2 b2
   split
   ·split<;>rfl
   ·rfl
  unfold sBin hBin
  cases op<;>first |rfl |exact key _ _ _ _
 case call c=>
  obtain ⟨callee,args,ats⟩:=c
  cases callee with
  |value f=>rfl
  |invoke r n=>rfl
  |builtin b=>
   show sBi P args ats type fi ro dst next loc tmp H D b=kG fi ro dst next loc tmp D (evBuiltin P H b ats type (args.toList.map (opdG fi loc tmp)))
   unfold sBi
   split
   ·rename_i x hx
    rw [hx]
    unfold sLen
    simp only [List.map_cons,List.map_nil,evBuiltin,lenV_eq]
    cases ats[0]? with
    |none=>rfl
    |some t=>
     simp only
     cases evLen P H t (opdG fi loc tmp x)<;>rfl
   ·rfl
 all_goals rfl
end step
noncomputable def evOpsG (P:Program) (self:Self) (fi:FI) (ro:Option Nat) (ops:Array Oper) (l:List Oper):Nx:=
 @List.rec Oper (fun _=>Nx) (fun loc tmp H D=>some (.normal,⟨loc,tmp⟩,H,D))
  (fun o _ ih loc tmp H D=>@Option.rec (Nat×Bool) (fun _=>Res) (stepG P self o fi ro o.dst ih loc tmp H D)
   (fun _=>gF none fi ops ⟨loc,tmp⟩ o (stepG P self o fi ro o.dst ih loc tmp H D) (putG fi o.dst ih loc tmp H D undef)) o.guard) l
noncomputable def evOpsF (P:Program) (self:Self) (fi:FI) (ro:Option Nat) (ops:Array Oper) (l:List Oper) (E:En):IH→List Deferred→Res:=evOpsG P self fi ro ops l E.loc E.tmp
theorem evOpsG_eq (P:Program) (self:Self) (fi:FI) (ro:Option Nat) (ops:Array Oper) (l:List Oper):∀ loc tmp H D,evOpsG P self fi ro ops l loc tmp H D=evOps P self fi ro ops l ⟨loc,tmp⟩ H D:=by
 induction l with
 |nil=>intro loc tmp H D;rfl
 |cons o l ih=>
  intro loc tmp H D
  have hn:evOpsG P self fi ro ops l=fun l1 t1=>(fun E=>evOps P self fi ro ops l E) ⟨l1,t1⟩:=by
   funext l1 t1 H1 D1;exact ih l1 t1 H1 D1
  have hstep:stepG P self o fi ro o.dst (evOpsG P self fi ro ops l) loc tmp H D=(match evOp P self (opd fi ⟨loc,tmp⟩) H o with
    |some (.val v H)=>evOps P self fi ro ops l (putT fi ⟨loc,tmp⟩ o.dst v) H D
    |some (.skip H)=>evOps P self fi ro ops l (putT fi ⟨loc,tmp⟩ o.dst undef) H D
    |some (.defer d H)=>if ro.isNone then evOps P self fi ro ops l (putT fi ⟨loc,tmp⟩ o.dst undef) H (d::D) else none
    |some (.panic v H)=>some (.panic v,⟨loc,tmp⟩,H,D)
    |none=>none):=by
   rw [stepG_eq,hn]
   unfold kG
   simp only [putG_eq]
   cases evOp P self (opd fi ⟨loc,tmp⟩) H o with
   |none=>rfl
   |some r=>cases r<;>rfl
  have hoff:putG fi o.dst (evOpsG P self fi ro ops l) loc tmp H D undef=evOps P self fi ro ops l (putT fi ⟨loc,tmp⟩ o.dst undef) H D:=by
   rw [hn,putG_eq]
  show @Option.rec (Nat×Bool) (fun _=>Res) (stepG P self o fi ro o.dst (evOpsG P self fi ro ops l) loc tmp H D)
   (fun _=>gF none fi ops ⟨loc,tmp⟩ o (stepG P self o fi ro o.dst (evOpsG P self fi ro ops l) loc tmp H D) (putG fi o.dst (evOpsG P self fi ro ops l) loc tmp H D undef)) o.guard=_
  have e:@Option.rec (Nat×Bool) (fun _=>Res) (stepG P self o fi ro o.dst (evOpsG P self fi ro ops l) loc tmp H D)
   (fun _=>gF none fi ops ⟨loc,tmp⟩ o (stepG P self o fi ro o.dst (evOpsG P self fi ro ops l) loc tmp H D) (putG fi o.dst (evOpsG P self fi ro ops l) loc tmp H D undef)) o.guard=
    gF none fi ops ⟨loc,tmp⟩ o (stepG P self o fi ro o.dst (evOpsG P self fi ro ops l) loc tmp H D) (putG fi o.dst (evOpsG P self fi ro ops l) loc tmp H D undef):=by
   unfold gF
   cases o.guard<;>rfl
  rw [e,gF_eq,hstep,hoff]
  conv=>rhs;unfold evOps
  rfl
theorem evOpsF_eq (P:Program) (self:Self) (fi:FI) (ro:Option Nat) (ops:Array Oper) (l:List Oper) (E:En) (H:IH) (D:List Deferred):evOpsF P self fi ro ops l E H D=evOps P self fi ro ops l E H D:=
 evOpsG_eq P self fi ro ops l E.loc E.tmp H D
noncomputable def dPure (P:Program) (self:Self) (fi:FI) (_n0 _i:Nat) (o:Oper) (_m:Nat) (s:DS):DR:=
 match evOpF P self (opdF fi s.T) s.H o with
 |some (.val v _)=> .done { s with T:=putTF fi s.T o.dst v }
 |_=> .fail
noncomputable def sameAtF (P:Program) (self:Self) (fi:FI) (T:En) (H:IH) (o:Oper) (v:Value):Bool:=
 match evOpF P self (opdF fi T) H o with
 |some (.val v' _)=>sameV v v'
 |_=>false
theorem sameAtF_eq (P:Program) (self:Self) (fi:FI) (T:En) (H:IH) (o:Oper) (v:Value):sameAtF P self fi T H o v=sameAt P self fi T H o v:=by
 unfold sameAtF sameAt valAt
 rw [evOpF_eq,opdF_eq]
 cases evOp P self (opd fi T) H o with
 |none=>rfl
 |some r=>cases r<;>rfl
noncomputable def okSnapsF (P:Program) (self:Self) (fi:FI) (T:En) (o:Oper) (v:Value) (m:Nat) (l:List (Nat×IH)):Bool:=
 @List.rec (Nat×IH) (fun _=>Bool) true (fun p _ ih=>@Bool.rec (fun _=>Bool) (@Bool.rec (fun _=>Bool) false ih (sameAtF P self fi T p.2 o v)) ih (tbF m p.1)) l
theorem okSnapsF_eq (P:Program) (self:Self) (fi:FI) (T:En) (o:Oper) (v:Value) (m:Nat) (l:List (Nat×IH)):okSnapsF P self fi T o v m l=okSnaps P self fi T o v m l:=by
 induction l with
 |nil=>rfl
 |cons p l ih=>
  obtain ⟨c,Hc⟩:=p
  show @Bool.rec (fun _=>Bool) (@Bool.rec (fun _=>Bool) false (okSnapsF P self fi T o v m l) (sameAtF P self fi T Hc o v)) (okSnapsF P self fi T o v m l) (tbF m c)=_
  rw [ih,sameAtF_eq,tbF_eq]
  simp only [okSnaps]
  cases m.testBit c<;>cases sameAt P self fi T Hc o v<;>rfl
noncomputable def okReadsF (P:Program) (self:Self) (fi:FI) (H:IH) (m:Nat) (l:List Rd):Bool:=
 @List.rec Rd (fun _=>Bool) true (fun r _ ih=>@Bool.rec (fun _=>Bool) (@Bool.rec (fun _=>Bool) false ih (sameAtF P self fi r.T H r.o r.v)) ih (tbF m r.i)) l
theorem okReadsF_eq (P:Program) (self:Self) (fi:FI) (H:IH) (m:Nat) (l:List Rd):okReadsF P self fi H m l=okReads P self fi H m l:=by
 induction l with
 |nil=>rfl
 |cons r l ih=>
  show @Bool.rec (fun _=>Bool) (@Bool.rec (fun _=>Bool) false (okReadsF P self fi H m l) (sameAtF P self fi r.T H r.o r.v)) (okReadsF P self fi H m l) (tbF m r.i)=_
  rw [ih,sameAtF_eq,tbF_eq]
  simp only [okReads]
  cases m.testBit r.i<;>cases sameAt P self fi r.T H r.o r.v<;>rfl
noncomputable def chainedF (m:Nat) (l:List (Nat×IH)):Bool:=@List.rec (Nat×IH) (fun _=>Bool) true (fun p _ ih=>@Bool.rec (fun _=>Bool) false ih (tbF m p.1)) l
theorem chainedF_eq (m:Nat) (l:List (Nat×IH)):chainedF m l=chained m l:=by
 induction l with
 |nil=>rfl
 |cons p l ih=>
  obtain ⟨c,Hc⟩:=p
  show @Bool.rec (fun _=>Bool) false (chainedF m l) (tbF m c)=_
  rw [ih,tbF_eq];simp only [chained];cases m.testBit c<;>rfl
noncomputable def inF (m:Nat) (l:List (Nat×IObj)):List (Nat×IObj):=@List.rec (Nat×IObj) (fun _=>List (Nat×IObj)) [] (fun p _ ih=>@Bool.rec (fun _=>List (Nat×IObj)) ih (p::ih) (tbF m p.1)) l
theorem inF_eq (m:Nat) (l:List (Nat×IObj)):inF m l=l.filter fun x=>m.testBit x.1:=by
 induction l with
 |nil=>rfl
 |cons p l ih=>
  show @Bool.rec (fun _=>List (Nat×IObj)) (inF m l) (p::inF m l) (tbF m p.1)=_
  rw [ih,tbF_eq,List.filter_cons];cases m.testBit p.1<;>rfl
noncomputable def outF (m:Nat) (l:List (Nat×IObj)):List (Nat×IObj):=@List.rec (Nat×IObj) (fun _=>List (Nat×IObj)) [] (fun p _ ih=>@Bool.rec (fun _=>List (Nat×IObj)) (p::ih) ih (tbF m p.1)) l
theorem outF_eq (m:Nat) (l:List (Nat×IObj)):outF m l=l.filter fun x=> !m.testBit x.1:=by
 induction l with
 |nil=>rfl
 |cons p l ih=>
  show @Bool.rec (fun _=>List (Nat×IObj)) (p::outF m l) (outF m l) (tbF m p.1)=_
  rw [ih,tbF_eq,List.filter_cons];cases m.testBit p.1<;>rfl
noncomputable def dRead (P:Program) (self:Self) (fi:FI) (_n0 i:Nat) (o:Oper) (m:Nat) (s:DS):DR:=
 match evOpF P self (opdF fi s.T) s.H o with
 |some (.val v _)=>@Bool.rec (fun _=>DR) .fail (.done { s with T:=putTF fi s.T o.dst v,reads:= ⟨i,o,s.T,v⟩::s.reads }) (okSnapsF P self fi s.T o v m s.snaps)
 |_=> .fail
noncomputable def dFresh (P:Program) (self:Self) (fi:FI) (n0 i:Nat) (o:Oper) (_m:Nat) (s:DS):DR:=
 match evOpF P self (opdF fi s.T) { s.H with n:=n0+i } o with
 |some (.val v H')=>match H'.get (n0+i) with
  |some ob=> .done { s with T:=putTF fi s.T o.dst v,pend:=(i,ob)::s.pend }
  |none=> .fail
 |_=> .fail
noncomputable def dChain2 (P:Program) (self:Self) (fi:FI) (i:Nat) (dst:Option Tmp) (m:Nat) (s:DS) (r:Option OpRes):DR:=
 match r with
 |some (.val v H')=>@Bool.rec (fun _=>DR) .fail (.done { T:=putTF fi s.T dst v,H:=H',pend:=outF m s.pend,snaps:=(i,s.H)::s.snaps,reads:=s.reads }) (okReadsF P self fi H' m s.reads)
 |some (.skip H')=>@Bool.rec (fun _=>DR) .fail (.done { T:=putTF fi s.T dst undef,H:=H',pend:=outF m s.pend,snaps:=(i,s.H)::s.snaps,reads:=s.reads }) (okReadsF P self fi H' m s.reads)
 |some (.panic v H')=> .panic v H'
 |_=> .fail
noncomputable def dChain (P:Program) (self:Self) (fi:FI) (n0 i:Nat) (o:Oper) (m:Nat) (s:DS):DR:=
 @Bool.rec (fun _=>DR) .fail (dChain2 P self fi i o.dst m s (evOpF P self (opdF fi s.T) (overlay n0 (inF m s.pend) s.H) o)) (chainedF m s.snaps)
noncomputable def drawStepF (P:Program) (self:Self) (fi:FI) (ops:Array Oper) (n0 i:Nat) (o:Oper) (m:Nat) (s:DS):DR:=
 gF .fail fi ops s.T o (@Kind.rec (fun _=>Program→Self→FI→Nat→Nat→Oper→Nat→DS→DR) dPure dRead dFresh dChain (kindOf P o) P self fi n0 i o m s) (.done { s with T:=putTF fi s.T o.dst undef })
theorem boolRec_if {R:Type} (b:Bool) (x y:R):@Bool.rec (fun _=>R) y x b=if b=true then x else y:=by cases b<;>rfl
theorem drawStepF_eq (P:Program) (self:Self) (fi:FI) (ops:Array Oper) (n0 i:Nat) (o:Oper) (m:Nat) (s:DS):drawStepF P self fi ops n0 i o m s=drawStep P self fi ops n0 i o m s:=by
 unfold drawStepF drawStep
 rw [gF_eq]
 split
 ·rename_i hw
  rw [hw]
  simp only
  cases hk:kindOf P o with
  |pure=>
   simp only [dPure,evOpF_eq,opdF_eq,putTF_eq]
   cases evOp P self (opd fi s.T) s.H o with
   |none=>rfl
   |some r=>cases r<;>rfl
  |read=>
   simp only [dRead,evOpF_eq,opdF_eq,putTF_eq,boolRec_if,okSnapsF_eq]
   cases evOp P self (opd fi s.T) s.H o with
   |none=>rfl
   |some r=>cases r<;>rfl
  |fresh=>
   simp only [dFresh,evOpF_eq,opdF_eq,putTF_eq]
   cases evOp P self (opd fi s.T) { s.H with n:=n0+i } o with
   |none=>rfl
   |some r=>cases r<;>rfl
  |chain=>
   simp only [dChain,dChain2,evOpF_eq,opdF_eq,putTF_eq,boolRec_if,okReadsF_eq,inF_eq,outF_eq,chainedF_eq]
   cases chained m s.snaps with
   |false=>rfl
   |true=>
    simp only [if_true]
    cases evOp P self (opd fi s.T) (overlay n0 (s.pend.filter fun x=>m.testBit x.1) s.H) o with
    |none=>rfl
    |some r=>cases r<;>rfl
 ·rename_i hw;rw [hw];simp only [putTF_eq]
 ·rename_i hw;rw [hw]
noncomputable def dNext (next:Nat→List Nat→DS→Option (Nat×Value×IH)→DR) (i:Nat) (ms:List Nat) (s:DS) (r:DR):DR:=
 @DR.rec (fun _=>DR) (fun s'=>next (i+1) ms s' none) (fun v H=>next (i+1) ms { s with snaps:=(i,s.H)::s.snaps } (some (i,v,H))) .fail r
noncomputable def dBehind (next:Nat→List Nat→DS→Option (Nat×Value×IH)→DR) (i:Nat) (ms:List Nat) (px:Nat×Value×IH) (r:DR):DR:=
 match r with
 | .done s'=>next (i+1) ms s' (some px)
 |_=> .fail
noncomputable def dEnd (s:DS) (px:Option (Nat×Value×IH)):DR:=
 match px with
 |none=> .done s
 |some (_,v,H)=> .panic v H
noncomputable def evDrawOpsF (P:Program) (self:Self) (fi:FI) (ops:Array Oper) (n0:Nat) (l:List Oper):Nat→List Nat→DS→Option (Nat×Value×IH)→DR:=
 @List.rec Oper (fun _=>Nat→List Nat→DS→Option (Nat×Value×IH)→DR) (fun _ _ s px=>dEnd s px)
  (fun o _ ih i ms s px=>@List.rec Nat (fun _=>DR) .fail (fun m ms _=>@Option.rec (Nat×Value×IH) (fun _=>DR) (dNext ih i ms s (drawStepF P self fi ops n0 i o m s))
   (fun px=>@Bool.rec (fun _=>DR) (dBehind ih i ms px (drawStepF P self fi ops n0 i o m s)) (ih (i+1) ms s (some px)) (tbF m px.1)) px) ms) l
theorem evDrawOpsF_eq (P:Program) (self:Self) (fi:FI) (ops:Array Oper) (n0:Nat) (l:List Oper):∀ i ms s px,evDrawOpsF P self fi ops n0 l i ms s px=evDrawOps P self fi ops n0 l i ms s px:=by
 induction l with
 |nil=>intro i ms s px;cases px<;>rfl
 |cons o l ih=>
  intro i ms s px
  cases ms with
  |nil=>cases px<;>rfl
  |cons m ms=>
   cases px with
   |none=>
    show dNext (evDrawOpsF P self fi ops n0 l) i ms s (drawStepF P self fi ops n0 i o m s)=_
    rw [drawStepF_eq]
    unfold evDrawOps dNext
    cases drawStep P self fi ops n0 i o m s with
    |done s'=>exact ih _ _ _ _
    |panic v H=>exact ih _ _ _ _
    |fail=>rfl
   |some px=>
    obtain ⟨c,v,H⟩:=px
    show @Bool.rec (fun _=>DR) (dBehind (evDrawOpsF P self fi ops n0 l) i ms (c,v,H) (drawStepF P self fi ops n0 i o m s)) (evDrawOpsF P self fi ops n0 l (i+1) ms s (some (c,v,H))) (tbF m c)=_
    rw [drawStepF_eq,ih,tbF_eq]
    unfold dBehind
    conv=>rhs;unfold evDrawOps
    cases m.testBit c with
    |true=>rfl
    |false=>
     cases drawStep P self fi ops n0 i o m s with
     |done s'=>exact ih _ _ _ _
     |panic v H=>rfl
     |fail=>rfl
noncomputable def allP {α:Type} (l:List α):(Nat→α→Bool)→Nat→Bool:=@List.rec α (fun _=>(Nat→α→Bool)→Nat→Bool) (fun _ _=>true) (fun a _ ih p i=>@Bool.rec (fun _=>Bool) false (ih p (Nat.succ i)) (p i a)) l
theorem allP_eq {α:Type} (p:Nat→α→Bool) (d:Bool) (l:List α):∀ k,allP l p k=(List.range l.length).all (fun i=>(l[i]?).elim d (p (k+i))):=by
 induction l with
 |nil=>intro k;rfl
 |cons a l ih=>
  intro k
  show @Bool.rec (fun _=>Bool) false (allP l p (k+1)) (p k a)=_
  rw [ih,List.length_cons,List.range_succ_eq_map,List.all_cons,List.all_map]
  have e:((fun i=>((a::l)[i]?).elim d (p (k+i)))∘Nat.succ)=fun i=>(l[i]?).elim d (p (k+1+i)):=by
   funext i
   simp only [Function.comp_apply,List.getElem?_cons_succ]
   cases l[i]? with
   |none=>rfl
   |some x=>simp only [Nat.succ_eq_add_one,Option.elim];congr 1;omega
  rw [e]
  simp only [List.getElem?_cons_zero,Nat.add_zero,Option.elim]
  cases p k a<;>rfl
theorem beqN (a b:Nat):Nat.beq a b=(a==b):=by
 rw [Bool.eq_iff_iff,Nat.beq_eq];simp
noncomputable def beqO (x:Option Tmp) (t:Nat):Bool:=@Option.rec Nat (fun _=>Bool) false (fun u=>Nat.beq u t) x
theorem beqO_eq (x:Option Tmp) (t:Nat):beqO x t=(x==some t):=by
 cases x with
 |none=>rfl
 |some u=>exact beqN u t
noncomputable def pairT (ms looks:List Nat) (d:Option Tmp) (m i j t:Nat):Bool:=
 @Bool.rec (fun _=>Bool) false
  (@Bool.rec (fun _=>Bool) (@Bool.rec (fun _=>Bool) (@Bool.rec (fun _=>Bool) true false (memF looks t)) true (tbF (@Option.rec Nat (fun _=>Nat) 0 (fun n=>n) (nthF ms j)) i)) true (tbF m j))
  (@Bool.rec (fun _=>Bool) (@Bool.rec (fun _=>Bool) true false (beqO d t)) true (Nat.beq j i))
noncomputable def pairF (ms looks:List Nat) (d:Option Tmp) (m i j:Nat) (oj:Oper):Bool:=@Option.rec Nat (fun _=>Bool) true (pairT ms looks d m i j) oj.dst
noncomputable def backF (i:Nat) (l:List Edge):Bool:=@List.rec Edge (fun _=>Bool) true (fun e _ ih=>@Bool.rec (fun _=>Bool) false ih (@Bool.rec (fun _=>Bool) true (Nat.ble (Nat.succ e.on) i) (Region.binds .any e))) l
noncomputable def statF (ops:Array Oper) (ms:List Nat) (i:Nat) (o:Oper):Bool:=
 @Option.rec Nat (fun _=>Bool) false (fun m=>@Bool.rec (fun _=>Bool) false (allP ops.toList (pairF ms (o.looksAt ops) o.dst m i) 0) (backF i o.after.toList)) (nthF ms i)
noncomputable def okStaticF (ops:Array Oper) (ms:List Nat):Bool:=allP ops.toList (statF ops ms) 0
theorem memF_contains (l:List Nat) (t:Nat):memF l t=l.contains t:=by
 induction l with
 |nil=>rfl
 |cons k l ih=>
  show @Bool.rec (fun _=>Bool) (memF l t) true (Nat.beq k t)=_
  rw [ih,List.contains_cons]
  have:Nat.beq k t=(t==k):=by
   rw [beqN]
   exact Bool.beq_comm
  rw [this]
  cases t==k<;>rfl
theorem okStaticF_eq (ops:Array Oper) (ms:List Nat):okStaticF ops ms=okStatic ops ms:=by
 unfold okStaticF okStatic
 rw [allP_eq _ false ops.toList 0]
 have hsz:ops.toList.length=ops.size:=Array.length_toList
 rw [hsz]
 congr 1
 funext i
 rw [←Array.getElem?_toList]
 cases ho:ops.toList[i]? with
 |none=>rfl
 |some o=>
  simp only [Nat.zero_add,Option.elim]
  unfold statF
  rw [nthF_eq]
  cases hm:ms[i]? with
  |none=>rfl
  |some m=>
   simp only
   have hback:∀ l:List Edge,backF i l=l.all (fun e=> !Region.binds .any e ||decide (e.on<i)):=by
    intro l
    induction l with
    |nil=>rfl
    |cons e l ih=>
     show @Bool.rec (fun _=>Bool) false (backF i l) (@Bool.rec (fun _=>Bool) true (Nat.ble (Nat.succ e.on) i) (Region.binds .any e))=_
     rw [ih,ble_decide,List.all_cons]
     have:decide (Nat.succ e.on≤i)=decide (e.on<i):=rfl
     rw [this]
     cases Region.binds .any e<;>cases decide (e.on<i)<;>rfl
   rw [hback,allP_eq _ true ops.toList 0,hsz]
   have hin:(List.range ops.size).all (fun j=>(ops.toList[j]?).elim true (pairF ms (o.looksAt ops) o.dst m i (0+j)))=
     (List.range ops.size).all fun j=>match ops[j]? with
      |some oj=>match oj.dst with
       |none=>true
       |some t=>(j==i ||o.dst !=some t) &&(m.testBit j ||(ms.getD j 0).testBit i || !(o.looksAt ops).contains t)
      |none=>true:=by
    congr 1
    funext j
    rw [←Array.getElem?_toList]
    cases ops.toList[j]? with
    |none=>rfl
    |some oj=>
     simp only [Nat.zero_add,Option.elim]
     unfold pairF
     cases oj.dst with
     |none=>rfl
     |some t=>
      show pairT ms (o.looksAt ops) o.dst m i j t=_
      unfold pairT
      rw [nthF_eq,tbF_eq,tbF_eq,memF_contains,beqO_eq]
      have hg:(@Option.rec Nat (fun _=>Nat) 0 (fun n=>n) ms[j]?)=ms.getD j 0:=by
       rw [List.getD_eq_getElem?_getD]
       cases ms[j]? <;>rfl
      rw [hg]
      have hj:Nat.beq j i=(j==i):=beqN j i
      rw [hj]
      simp only [bne]
      cases (j==i)<;>cases (o.dst==some t)<;>cases m.testBit j<;>cases (ms.getD j 0).testBit i<;>cases (o.looksAt ops).contains t<;>rfl
   refine (congrArg (fun b=>@Bool.rec (fun _=>Bool) false b (o.after.toList.all fun e=> !Region.binds .any e ||decide (e.on<i))) hin).trans ?_
   cases o.after.toList.all (fun e=> !Region.binds .any e ||decide (e.on<i))<;>rfl
noncomputable def drawEnd (fi:FI) (ops:Array Oper) (T:En) (n0:Nat) (D:List Deferred) (r:DR):Res:=
 @DR.rec (fun _=>Res) (fun s=>some (.normal,s.T,overlay n0 s.pend s.H,D)) (fun v H=>some (.panic v,poisonAll fi ops.toList T,H,D)) none r
noncomputable def evDrawF (P:Program) (self:Self) (fi:FI) (ops:Array Oper) (T:En) (H:IH) (D:List Deferred):Res:=
 @Bool.rec (fun _=>Res) none (drawEnd fi ops T H.n D (evDrawOpsF P self fi ops H.n ops.toList 0 (predsOf ops.toList []) ⟨T,{ H with n:=H.n+resv P ops },[],[],[]⟩ none)) (okStaticF ops (predsOf ops.toList []))
theorem evDrawF_eq (P:Program) (self:Self) (fi:FI) (ops:Array Oper) (T:En) (H:IH) (D:List Deferred):evDrawF P self fi ops T H D=evDraw P self fi ops T H D:=by
 unfold evDrawF evDraw drawEnd
 rw [evDrawOpsF_eq,boolRec_if,okStaticF_eq]
 simp only
 split
 ·cases evDrawOps P self fi ops H.n ops.toList 0 (predsOf ops.toList []) ⟨T,{ H with n:=H.n+resv P ops },[],[],[]⟩ none<;>rfl
 ·rfl
noncomputable def onX (xn:En→IH→List Deferred→Res) (r:Res):Res:=
 @Option.rec (X×En×IH×List Deferred) (fun _=>Res) none (fun p=>@Prod.rec X (En×IH×List Deferred) (fun _=>Res) (fun x p=>@X.rec (fun _=>Res) (xn p.1 p.2.1 p.2.2) (fun id=>some (.exit id,p)) (some (.ret,p)) (fun v=>some (.panic v,p)) x) p) r
theorem onX_eq (xn:En→IH→List Deferred→Res) (r:Res):onX xn r=(match r with |some (.normal,T,H,D)=>xn T H D |r=>r):=by
 cases r with
 |none=>rfl
 |some p=>obtain ⟨x,T,H,D⟩:=p;cases x<;>rfl
noncomputable def onBlk (id:Nat) (r:Res):Res:=
 @Option.rec (X×En×IH×List Deferred) (fun _=>Res) none (fun p=>@Prod.rec X (En×IH×List Deferred) (fun _=>Res) (fun x p=>@X.rec (fun _=>Res) (some (.normal,p)) (fun j=>@Bool.rec (fun _=>Res) (some (.exit j,p)) (some (.normal,p)) (Nat.beq j id)) (some (.ret,p)) (fun v=>some (.panic v,p)) x) p) r
theorem onBlk_eq (id:Nat) (r:Res):onBlk id r=(match r with |some (.exit j,T,H,D)=>if j=id then some (.normal,T,H,D) else some (.exit j,T,H,D) |r=>r):=by
 cases r with
 |none=>rfl
 |some p=>
  obtain ⟨x,T,H,D⟩:=p
  cases x with
  |exit j=>
   show @Bool.rec (fun _=>Res) (some (.exit j,T,H,D)) (some (.normal,T,H,D)) (Nat.beq j id)=_
   cases hb:Nat.beq j id with
   |true=>simp [Nat.eq_of_beq_eq_true hb]
   |false=>simp [Nat.ne_of_beq_eq_false hb]
  |_=>rfl
noncomputable def onB (a b:En→IH→List Deferred→Res) (T:En) (H:IH) (D:List Deferred) (v:Value):Res:=
 match v with
 | .bool c=>@Bool.rec (fun _=>Res) (b T H D) (a T H D) c
 |_=>none
noncomputable def evCodeF (P:Program) (self:Self) (fi:FI) (ro:Option Nat) (c:Code):En→IH→List Deferred→Res:=
 @Code.rec (fun _=>En→IH→List Deferred→Res)
  (fun T H D=>some (.normal,T,H,D))
  (fun _ ops d T H D=>@Bool.rec (fun _=>Res) (evOpsF P self fi ro ops ops.toList T.reset H D) (evDrawF P self fi ops T.reset H D) d)
  (fun _ _ ia ib T H D=>onX ib (ia T H D))
  (fun c _ _ ia ib T H D=>onB ia ib T H D (opdF fi T c))
  (fun id _ ic T H D=>onBlk id (ic T H D))
  (fun c ic T H D=>onX (self.code fi ro (.loop c)) (ic T H D))
  (fun f ps asg body _ _ T H D=>evCode P self fi ro (.rangeFunc f ps asg body) T H D)
  (fun id T H D=>some (.exit id,T,H,D))
  (fun _ ic T H D=>ic T H D)
  (fun _ T H D=>some (.normal,T,H,D))
  (fun _ _ _ _=>none)
  (fun T H D=>some (.ret,T,H,D))
  (fun _ _ _ _=>none) c
theorem evCodeF_eq (P:Program) (self:Self) (fi:FI) (ro:Option Nat) (c:Code):∀ T H D,evCodeF P self fi ro c T H D=evCode P self fi ro c T H D:=by
 induction c with
 |skip=>intro T H D;rfl
 |region id ops d=>
  intro T H D
  cases d with
  |false=>exact evOpsF_eq P self fi ro ops ops.toList T.reset H D
  |true=>exact evDrawF_eq P self fi ops T.reset H D
 |seq a b iha ihb=>
  intro T H D
  show onX (evCodeF P self fi ro b) (evCodeF P self fi ro a T H D)=_
  rw [onX_eq,iha]
  conv=>rhs;unfold evCode
  cases evCode P self fi ro a T H D with
  |none=>rfl
  |some p=>
   obtain ⟨x,T,H,D⟩:=p
   cases x with
   |normal=>exact ihb T H D
   |_=>rfl
 |cond c a b iha ihb=>
  intro T H D
  show onB (evCodeF P self fi ro a) (evCodeF P self fi ro b) T H D (opdF fi T c)=_
  rw [opdF_eq]
  unfold onB
  conv=>rhs;unfold evCode
  cases opd fi T c with
  |bool x=>cases x with
   |true=>exact iha T H D
   |false=>exact ihb T H D
  |_=>rfl
 |block id c ih=>
  intro T H D
  show onBlk id (evCodeF P self fi ro c T H D)=_
  rw [onBlk_eq,ih]
  conv=>rhs;unfold evCode
  rfl
 |loop c ih=>
  intro T H D
  show onX (self.code fi ro (.loop c)) (evCodeF P self fi ro c T H D)=_
  rw [onX_eq,ih]
  conv=>rhs;unfold evCode
  rfl
 |rangeFunc f ps asg body _ _=>intro T H D;rfl
 |exit id=>intro T H D;rfl
 |scope c ih=>intro T H D;exact ih T H D
 |label l=>intro T H D;rfl
 |goto l=>intro T H D;rfl
 |ret=>intro T H D;rfl
 |refuse s=>intro T H D;rfl
noncomputable def leaveF (P:Program) (hint:Hint) (self:Self) (fi:FI) (fn:Func) (x:X) (p:En×IH×List Deferred):Option (End×IH):=
 @X.rec (fun _=>Option (End×IH)) (evLeave P hint self fi fn p.1 p.2.2 .returning p.2.1) (fun _=>none) (evLeave P hint self fi fn p.1 p.2.2 .returning p.2.1) (fun v=>evLeave P hint self fi fn p.1 p.2.2 (.panicking v false) p.2.1) x
noncomputable def afterF (P:Program) (hint:Hint) (self:Self) (fi:FI) (fn:Func) (r:Res):Option (End×IH):=
 @Option.rec (X×En×IH×List Deferred) (fun _=>Option (End×IH)) none (fun p=>leaveF P hint self fi fn p.1 p.2) r
noncomputable def bodyF (P:Program) (hint:Hint) (self:Self) (f:FuncId) (args:List Value) (H:IH) (fn:Func) (c:Code):Option (End×IH):=
 @Bool.rec (fun _=>Option (End×IH)) none (afterF P hint self (fiOf hint f fn) fn (evCodeF P self (fiOf hint f fn) none c (frameOf args) H [])) (fits fn args)
noncomputable def evCallF (P:Program) (hint:Hint) (self:Self) (f:FuncId) (args:List Value) (H:IH):Option (End×IH):=
 @Option.rec Func (fun _=>Option (End×IH)) none (fun fn=>@Option.rec Code (fun _=>Option (End×IH)) none (bodyF P hint self f args H fn) fn.body) P.funcs[f]?
theorem evCallF_eq (P:Program) (hint:Hint) (self:Self) (f:FuncId) (args:List Value) (H:IH):evCallF P hint self f args H=evCall P hint self f args H:=by
 unfold evCallF evCall
 cases P.funcs[f]? with
 |none=>rfl
 |some fn=>
  simp only
  cases fn.body with
  |none=>rfl
  |some c=>
   simp only [bodyF,boolRec_if,evCodeF_eq]
   split
   ·unfold afterF leaveF
    cases evCode P self (fiOf hint f fn) none c (frameOf args) H [] with
    |none=>rfl
    |some p=>obtain ⟨x,T,H,D⟩:=p;cases x<;>rfl
   ·rfl
noncomputable def evCallSF (P:Program) (hint:Hint) (spec:Spec) (self:Self) (f:FuncId) (args:List Value) (H:IH):Option (End×IH):=
 @Option.rec (End×IH) (fun _=>Option (End×IH)) (evCallF P hint self f args H) some (spec f args H)
theorem evCallSF_eq (P:Program) (hint:Hint) (spec:Spec) (self:Self) (f:FuncId) (args:List Value) (H:IH):evCallSF P hint spec self f args H=evCallS P hint spec self f args H:=by
 unfold evCallSF evCallS
 cases spec f args H with
 |none=>exact evCallF_eq P hint self f args H
 |some r=>rfl
noncomputable def evF (P:Program) (hint:Hint) (spec:Spec) (n:Nat):Self:=
 @Nat.rec (fun _=>Self) ⟨fun _ _ _ _ _ _=>none,fun _ _ _=>none⟩ (fun _ s=> ⟨evCodeF P s,evCallSF P hint spec s⟩) n
theorem evF_eq (P:Program) (hint:Hint) (spec:Spec):∀ n,evF P hint spec n=ev P hint spec n:=by
 intro n
 induction n with
 |zero=>rfl
 |succ n ih=>
  show Self.mk (evCodeF P (evF P hint spec n)) (evCallSF P hint spec (evF P hint spec n))= ⟨evCode P (ev P hint spec n),evCallS P hint spec (ev P hint spec n)⟩
  rw [ih]
  congr 1
  ·funext fi ro c T H D;exact evCodeF_eq P _ fi ro c T H D
  ·funext f args H;exact evCallSF_eq P hint spec _ f args H
end Go.Iv
