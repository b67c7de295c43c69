/- Functions that are handed pointers: the objects behind them are handed over, and handed back; what is to be shown of each, and that it may be used. -/
import Derived.Test.YteknbnkjelmfaaaGreatDoorGvLoop
set_option linter.unusedSimpArgs false
set_option linter.unusedVariables false
namespace Go.Gv
open Go Go.Iv
noncomputable section
def RP:List (Nat×Nat)->Nat->Nat
 | [],k=>k
 |(a,b)::r,k=>bif Nat.beq a k then b else RP r k
def sg (al:List (Nat×Nat)) (k:Nat):Nat:=bif Nat.blt k bI then k else RP al k
def Hw (σ:Nat->Nat):TV->TV
 | .ptr a o=> .ptr (σ a) o
 | .all a=> .all (σ a)
 | .mp a=> .mp (σ a)
 |v=>v
def UC (kn:Nat->Bool):TV->Bool
 | .ptr a _=>kn a
 | .all a=>kn a
 | .mp a=>kn a
 | .raw _ | .undef=>true
 |_=>false
def T1.DP (σ:Nat->Nat) (kn:Nat->Bool) (H:GH) (n:Nat) (us:Us) (t:T1) (v:TV):Option (t.ty×Us):=
 match t with
 | .fix t=>bif UC kn t &&pD (Hw σ t) v then some ((),us) else none
 |t=>t.get H 0 n us v
def G7 (σ:Nat->Nat) (kn:Nat->Bool) (H:GH) (n:Nat):(l:List T1)->Us->List TV->Option (QE l×Us)
 | [],us,[]=>some ((),us)
 |t::r,us,v::vs=>match t.DP σ kn H n us v with
  |some (x,us)=>match G7 σ kn H n r us vs with
   |some (y,us)=>some ((x,y),us)
   |none=>none
  |none=>none
 |_,_,_=>none
def OT.DP (σ:Nat->Nat) (kn:Nat->Bool) (H:GH) (n:Nat) (us:Us) (t:OT) (o:bu):Option (t.ty×Us):=
 match t with
 | .cells et l w=>match o with
  | .cells et' cs w'=>bif Nat.beq et et' &&(bif w then w' else !w') then G7 σ kn H n l us cs else none
  |_=>none
 |t=>t.get H 0 n us o
def gy (σ:Nat->Nat) (kn:Nat->Bool) (H:GH) (n:Nat):(l:List (Nat×OT))->Us->Option (bc l×Us)
 | [],us=>some ((),us)
 |(k,t)::r,us=>bif kn k then match H.get (σ k) with
  |some o=>match t.DP σ kn H n us o with
   |some (x,us)=>match gy σ kn H n r us with
    |some (y,us)=>some ((x,y),us)
    |none=>none
   |none=>none
  |none=>none
  else none
def Lx (a b:Nat) (al:List (Nat×Nat)):List (Nat×Nat):=bif Nat.ble bI a && !(al.any fun p=>Nat.beq p.1 a) then al++ [(a,b)] else al
def Rj:TV->TV->List (Nat×Nat)->List (Nat×Nat)
 | .ptr a _,.ptr b _,al=>Lx a b al
 | .all a,.all b,al=>Lx a b al
 | .mp a,.mp b,al=>Lx a b al
 |_,_,al=>al
def NU:List T1->List TV->List (Nat×Nat)->List (Nat×Nat)
 | .fix t::r,v::vs,al=>NU r vs (Rj t v al)
 |_::r,_::vs,al=>NU r vs al
 |_,_,al=>al
def GD (H:GH):List (Nat×OT)->List (Nat×Nat)->List (Nat×Nat)
 | [],al=>al
 |(k,.cells _ l _)::r,al=>match H.get (RP al k) with
  |some (.cells _ cs _)=>GD H r (NU l cs al)
  |_=>GD H r al
 |_::r,al=>GD H r al
def NL:List TV->List TV->List (Nat×Nat)->List (Nat×Nat)
 |t::r,v::vs,al=>NL r vs (Rj t v al)
 |_,_,al=>al
abbrev PR:Option TypeId->Type->Type
 |none,A=>A
 |some _,A=>A⊕Int
def PR.el {A:Type}:(p:Option TypeId)->PR p A->A⊕(TypeId×Int)
 |none,y=> .inl y
 |some _,.inl y=> .inl y
 |some t,.inr e=> .inr (t,e)
def PR.cs {A B:Type}:(p:Option TypeId)->PR p A->(A->B)->(TypeId->Int->B)->B
 |none,y,f,_=>f y
 |some t,y,f,g=>match y with
  | .inl y=>f y
  | .inr e=>g t e
def PR.mk {A:Type} (c:Bool):(p:Option TypeId)->TV->Option A->Option (PR p A)
 |none,_,o=>o
 |some t,v,o=>LM v (fun w=>match Gw t w with
  |some e=>bif c then some (.inr e) else none
  |none=>none) (match o with
  |some a=>some (.inl a)
  |none=>none)
abbrev R2:Option (List T1)->Type->Type
 |none,A=>A
 |some l,A=>QE l×A
def E2:Option (List T1)->List (Nat×T2)
 |none=> []
 |some l=> [(0,.agg l)]
def R2.to {A:Type}:(ow:Option (List T1))->R2 ow A->np (E2 ow)×A
 |none,y=>((),y)
 |some _,y=>((y.1,()),y.2)
def R2.of {A:Type}:(ow:Option (List T1))->np (E2 ow)×A->R2 ow A
 |none,x=>x.2
 |some _,x=>(x.1.1,x.2)
def R0 {A:Type} (ρ:Nat->Nat):(ow:Option (List T1))->R2 ow A->List TV
 |none,_=> []
 |some l,y=> [.agg ((oC l y.1).1.map (Hw ρ))]
def Rq (ow:List TV) (l:List TV):TV:=jk (ow++l)
structure du where
 f:FuncId
 ar:List TV
 pa:List (Bool×Sh)
 re:List (Bool×Sh)
 n0:Nat
 os:List (Nat×OT)
 n:Nat
 xY:List (Nat×OT)
 n2:Nat
 ro:Bool
 pt:Option TypeId
 ow:Option (List T1)
 D:Nat
 F:Nat->aw pa×bc os->Option (PR pt (aw re×R2 ow (bc xY)))
def du.T (it:du):Tm:=⟨[],it.os,it.n0,it.n,0⟩
def du.T2 (it:du):Tm:=⟨E2 it.ow,it.xY,it.n0,it.n2,0⟩
def du.gone (it:du):du:=⟨it.f,it.ar,it.pa,[],it.n0,it.os,it.n,[],it.n0,false,none,none,it.D,fun _ _=>none⟩
def du.kn (it:du) (k:Nat):Bool:=Nat.blt k bI ||it.os.any fun p=>Nat.beq p.1 k
def Gb (kn:Nat->Bool) (n0 n2:Nat):TV->Bool
 | .int _ _ | .byte _ | .bool _ | .str _ | .aB _ _ _ _ | .raw _ | .undef=>true
 | .all c=>kn c ||(Nat.ble n0 c &&Nat.blt c n2)
 | .ptr c _=>kn c
 | .mp c=>kn c
 |_=>false
def ux (kn:Nat->Bool) (n0 n2:Nat):bu->Bool
 | .cells _ cs _=>cs.all (Gb kn n0 n2)
 | .arr .. | .iter .. | .map .. =>true
 | .nest _ _ _ _ _ _ _ ho=>ho.isNone
 | .loop .. | .gw .. =>false
def AZ (ρ:Nat->Nat):bu->bu
 | .cells et cs w=> .cells et (cs.map (Hw ρ)) w
 |o=>o
def Ed (kn:Nat->Bool) (n0 n2 ck:Nat) (ρ:Nat->Nat) (Hc:GH):List Nat->Tr (Nat×bu)->Tr (Nat×bu)
 | [],t=>t
 |k::r,t=>match Hc.get k with
  |some o=>bif (kn k ||(Nat.ble n0 k &&Nat.blt k n2)) &&ux kn n0 n2 o then Tr.pR (some (ck,AZ ρ o)) (Nat.succ (ρ k)) (Ed kn n0 n2 ck ρ Hc r t) (ρ k) else Ed kn n0 n2 ck ρ Hc r t
  |none=>Ed kn n0 n2 ck ρ Hc r t
def upto (a:Nat):Nat->List Nat
 |0=> []
 |k+1=>a::upto (a+1) k
def fC:Us->List Nat
 | []=> []
 |(_,some (id,_),_)::r=>id::fC r
 |(_,none,_)::r=>fC r
def Oi (σ:Nat->Nat) (n0 m k:Nat):Nat:=bif Nat.blt k n0 then σ k else m+(k - n0)
def du.oZ (it:du) (σ:Nat->Nat) (us:Us) (H:GH) (y:it.T2.ty):GH:=
 ⟨Ed it.kn it.n0 it.n2 H.ck (Oi σ it.n0 H.n) (it.T2.H y) (it.xY.map (·.1)++upto it.n0 (it.n2 - it.n0)) (eS (it.os.map (fun p=>σ p.1)++fC us) H).t,H.n+(it.n2 - it.n0),Nat.succ H.ck⟩
def tU (σ:Nat->Nat) (os:List (Nat×OT)):Us->Bool
 | []=>true
 |(_,some (id,_),_)::r=>os.all (fun p=> !Nat.beq (σ p.1) id) &&tU σ os r
 |(_,none,_)::r=>tU σ os r
def Hf (σ:Nat->Nat):List (Nat×OT)->Bool
 | []=>true
 |p::r=>r.all (fun q=> !Nat.beq (σ p.1) (σ q.1)) &&Hf σ r
def RG (σ:Nat->Nat) (kn:Nat->Bool):List TV->List TV->Bool
 | [],[]=>true
 |t::r,v::vs=>UC kn t &&pD (Hw σ t) v &&RG σ kn r vs
 |_,_=>false
def du.wf (it:du) (σ:Nat->Nat) (us:Us):Bool:=
 it.os.all (fun p=>Nat.ble bI p.1 &&Nat.blt p.1 it.n0) &&Hf σ it.os &&tU σ it.os us &&us.all (fun p=>Nat.ble it.n0 p.1) &&Nat.ble it.n0 it.n &&Nat.ble bI it.n0 &&Nat.ble it.n0 it.n2
def du.eR (Z:Type) (it:du):Nat->List TV->GH->(TV->GH->Option Z)->Option Z:=fun N args H K=>
 bif Nat.ble it.D N then
  match nD it.pa (args.drop it.ar.length) H with
  |some (x,H)=>
   let al:=GD H it.os (NL it.ar args [])
   bif RG (sg al) it.kn it.ar (args.take it.ar.length) then
    match gy (sg al) it.kn H it.n it.os [] with
    |some (s,us)=>bif it.wf (sg al) us then
      (it.F (N - it.D) (x,s)).bind fun y=>PR.cs it.pt y (fun y=>K (Rq (R0 (Oi (sg al) it.n0 H.n) it.ow y.2) (dC it.re y.1)) (bif it.ro then H else it.oZ (sg al) us H (R2.to it.ow y.2))) fun t e=>K (.J6 (LL t e)) (it.gone.oZ (sg al) us H ((),()))
     else none
    |none=>none
   else none
  |none=>none
 else none
def F9 (l:List (Bool×Sh)) (v:TV) (H:GH):Option (aw l×GH):=
 match v with
 | .ja vs=>bif Nat.beq l.length 1 then none else nD l vs H
 |v=>nD l [v] H
def QS:bu->Bool
 | .nest .. | .gw .. =>false
 |_=>true
def Gi (H1:GH):xH->Bool
 | []=>true
 |(id,o)::r=>QS o &&(match H1.t.k9 id with
  |some (0,o1)=>o1.cY
  |_=>false) &&Gi H1 r
def KS (ow:Option (List T1)) (re:List (Bool×Sh)) (v:TV) (H:GH):Option (aw re×TV×GH):=
 match ow with
 |none=>match F9 re v H with
  |some (y,H)=>some (y,.undef,H)
  |none=>none
 |some l=>match v with
  | .ja (.agg cs::u::vs)=>match nD re (u::vs) H with
   |some (y,H)=>some (y,.agg cs,mh l cs H)
   |none=>none
  | .agg cs=>match nD re [] H with
   |some (y,H)=>some (y,.agg cs,mh l cs H)
   |none=>none
  |_=>none
def To {A:Type} (kn:Nat->Bool) (n0 n2:Nat):(ow:Option (List T1))->R2 ow A->Bool
 |none,_=>true
 |some l,y=>(oC l y.1).1.all (Gb kn n0 n2)
def Ri (it:du) (w:TV) (H:GH):Option (R2 it.ow (bc it.xY)):=
 match it.T2.take ⟨.c 0 w .e,.e⟩ H with
 |some s=>bif To it.kn it.n0 it.n2 it.ow (R2.of it.ow s) then some (R2.of it.ow s) else none
 |none=>none
def Hn (it:du) (s:bc it.os) (v:TV) (H:GH):Option (aw it.re×R2 it.ow (bc it.xY)):=
 match KS it.ow it.re v H with
 |some (y,w,H)=>bif !it.ro ||(it.ow.isNone &&Gi H ((dP it.os s).1++(dP it.os s).2)) then match Ri it w H with
  |some s=>some (y,s)
  |none=>none
  else none
 |none=>none
def RF (it:du) (s:bc it.os) (v:TV) (H:GH):Option (PR it.pt (aw it.re×R2 it.ow (bc it.xY))):=PR.mk (Nat.ble it.n0 H.n &&Nat.ble bI it.n0) it.pt v (Hn it s v H)
end
section
variable {P:Program} {hint:Hint} {sh:bU} {O:Nat->Prop} {Γ Γ1 Γ':aN} {Pu Pu1:Nat->Prop} {H H1:GH} {I I1:IH} {Z:Type} {r:Z}
def H8 (σ:Nat->Nat) (kn:Nat->Bool) (Γ Γ':aN):Prop:=∀ k,kn k=true->Γ' k=Γ (σ k)
theorem MA {σ:Nat->Nat} {kn:Nat->Bool} (hc:H8 σ kn Γ Γ') {t:TV} {v:Value} (hi:UC kn t=true) (h:GR Γ Pu I (Hw σ t) v):GR Γ' Pu I t v:=by
 cases t with
 |ptr a o=>cases h with |ptr x y=>exact .ptr ((hc a hi).trans x) y
 |all a=>cases h with |all x y=>exact .all ((hc a hi).trans x) y
 |mp a=>cases h with |mp x y=>exact .mp ((hc a hi).trans x) y
 |raw w=>cases h;exact .raw _
 |undef=>exact .undef _
 |_=>cases hi
structure kZ (P:Program) (hint:Hint) (σ:Nat->Nat) (kn:Nat->Bool) (n:Nat) (Γ:aN) (Pu:Nat->Prop) (I:IH) (H:GH) (us us':Us) (q:aN->Prop) (N:xH):Prop where
 sub:∀ p,p∈us->p∈us'
 ok:gW 0 n us'
 qF:∀ Γ',H8 σ kn Γ Γ'->Mr 0 us' Γ Γ'->q Γ'/\iY P hint Γ Γ' Pu I us' H N
theorem rI.s {σ:Nat->Nat} {kn:Nat->Bool} {n:Nat} {us us':Us} {q:aN->Prop} {N:xH} (h:rI P hint 0 n Γ Pu I H us us' q N):kZ P hint σ kn n Γ Pu I H us us' q N:=
 ⟨h.sub,h.ok,fun Γ' _ hc=>h.qF Γ' hc⟩
theorem kZ.trans {σ:Nat->Nat} {kn:Nat->Bool} {n:Nat} {us us1 us2:Us} {p q:aN->Prop} {A B:xH} (h:kZ P hint σ kn n Γ Pu I H us us1 p A) (k:kZ P hint σ kn n Γ Pu I H us1 us2 q B):kZ P hint σ kn n Γ Pu I H us us2 (fun Γ'=>p Γ'/\q Γ') (A++B):=
 ⟨fun x hx=>k.sub x (h.sub x hx),k.ok,fun Γ' hl hc=>by
  obtain ⟨a,b⟩:=h.qF Γ' hl (hc.sub k.sub);obtain ⟨c,d⟩:=k.qF Γ' hl hc;refine ⟨⟨a,c⟩,iY.app (fun c o hm=>?_) d⟩;obtain ⟨l,s,z,x1,x2,x3,x4,x5⟩:=b c o hm;exact ⟨l,s,z,x1,x2,x3,k.sub _ x4,x5⟩⟩
theorem kZ.imp {σ:Nat->Nat} {kn:Nat->Bool} {n:Nat} {us us1:Us} {p q:aN->Prop} {A:xH} (h:kZ P hint σ kn n Γ Pu I H us us1 p A) (hi:∀ Γ',p Γ'->q Γ'):kZ P hint σ kn n Γ Pu I H us us1 q A:=
 ⟨h.sub,h.ok,fun Γ' hl hc=>⟨hi Γ' (h.qF Γ' hl hc).1,(h.qF Γ' hl hc).2⟩⟩
theorem kZ.none {σ:Nat->Nat} {kn:Nat->Bool} {n:Nat} {us:Us} {p:aN->Prop} (hu:gW 0 n us) (hp:∀ Γ',p Γ'):kZ P hint σ kn n Γ Pu I H us us p []:=
 ⟨fun _ h=>h,hu,fun Γ' _ _=>⟨hp Γ',iY.nil⟩⟩
theorem T1.zX {σ:Nat->Nat} {kn:Nat->Bool} (hs:au P hint sh Γ Pu H I) {n:Nat} {us us':Us} (hu:gW 0 n us) {t:T1} {x:t.ty} {v:TV} {v':Value} (h:t.DP σ kn H n us v=some (x,us')) (hr:GR Γ Pu I v v'):
  kZ P hint σ kn n Γ Pu I H us us' (fun Γ'=>GR Γ' Pu I (t.put x).1 v') (t.put x).2:=by
 have other:t.get H 0 n us v=some (x,us')->kZ P hint σ kn n Γ Pu I H us us' (fun Γ'=>GR Γ' Pu I (t.put x).1 v') (t.put x).2:=fun h=>(T1.gF hs hu h hr).s
 cases t with
 |fix t=>
  simp only [T1.DP] at h;replace h:=ad h;obtain ⟨hb,h⟩:=h;replace hb:=ae hb;cases h;exact ⟨fun _ h=>h,hu,fun Γ' hl _=>⟨MA hl hb.1 (nI hb.2 hr),iY.nil⟩⟩
 |_=>exact other h
theorem Nf {σ:Nat->Nat} {kn:Nat->Bool} (hs:au P hint sh Γ Pu H I) {n:Nat}:∀ {l:List T1} {us us':Us} {x:QE l} {vs:List TV} {vs':List Value},gW 0 n us->G7 σ kn H n l us vs=some (x,us')->br Γ Pu I vs vs'->
  kZ P hint σ kn n Γ Pu I H us us' (fun Γ'=>br Γ' Pu I (oC l x).1 vs') (oC l x).2:=by
 intro l
 induction l with
 |nil=>
  intro us us' x vs vs' hu h hr;cases vs with
  |nil=>cases h;cases hr;exact kZ.none hu fun _=> .nil
  |cons=>cases h
 |cons t r ih=>
  intro us us' x vs vs' hu h hr;cases hr with
  |nil=>cases h
  |cons a b=>
   simp only [G7] at h;split at h
   .rename_i y us1 h1
    split at h
    .rename_i z us2 h2
     cases h;have g1:=T1.zX hs hu h1 a;have g2:=ih g1.ok h2 b;exact (g1.trans g2).imp fun Γ' hh=> .cons hh.1 hh.2
    .cases h
   .cases h
theorem OT.zX {σ:Nat->Nat} {kn:Nat->Bool} (hs:au P hint sh Γ Pu H I) {n:Nat} {us us':Us} (hu:gW 0 n us) {t:OT} {x:t.ty} {o:bu} {l:Loc} (hok:MP P hint t) (h:t.DP σ kn H n us o=some (x,us')) (ho:OR P hint Γ Pu I l o):
  kZ P hint σ kn n Γ Pu I H us us' (fun Γ'=>OR P hint Γ' Pu I l (t.put x).1) (t.put x).2/\(t.put x).1.cY=o.cY/\∀ b,(t.put x).1.has I l b->o.has I l b:=by
 have other:t.get H 0 n us o=some (x,us')->kZ P hint σ kn n Γ Pu I H us us' (fun Γ'=>OR P hint Γ' Pu I l (t.put x).1) (t.put x).2/\(t.put x).1.cY=o.cY/\∀ b,(t.put x).1.has I l b->o.has I l b:=fun h=>by
  obtain ⟨a,b,c⟩:=OT.gF hs hu hok h ho;exact ⟨a.s,b,c⟩
 cases t with
 |cells et tl w=>
  cases o with
  |cells et' cs w'=>
   simp only [OT.DP] at h;replace h:=ad h;obtain ⟨hb,h⟩:=h;replace hb:=ae hb;have e1:=beq_true hb.1;have e2:=iU hb.2;subst e1 e2;obtain ⟨b,vs,fz,ex,sd,hp,hg,hr,hw,hpu⟩:=ho;exact ⟨(Nf hs hu h hr).imp fun Γ' hh=>⟨b,vs,fz,ex,sd,hp,hg,hh,hw,hpu⟩,rfl,fun _ h=>False.elim h⟩
  |_=>cases h
 |_=>exact other h
theorem Bz {σ:Nat->Nat} {kn:Nat->Bool} (hs:au P hint sh Γ Pu H I) {n:Nat}:∀ {l:List (Nat×OT)} {us us':Us} {x:bc l},(∀ p∈l,MP P hint p.2)->gW 0 n us->gy σ kn H n l us=some (x,us')->
  kZ P hint σ kn n Γ Pu I H us us' (fun Γ'=>∀ k o,(k,o)∈(dP l x).1->kn k=true/\(∃ p∈l,p.1=k)/\∃ lo o',Γ (σ k)=some lo/\OR P hint Γ' Pu I lo o/\H.get (σ k)=some o'/\o.cY=o'.cY/\∀ b,o.has I lo b->o'.has I lo b) (dP l x).2:=by
 intro l
 induction l with
 |nil=>
  intro us us' x _ hu h;unfold gy at h;cases h;exact kZ.none hu fun _ id o hm=>by cases hm
 |cons p r ih=>
  intro us us' x hok hu h;obtain ⟨k,t⟩:=p;simp only [gy] at h;replace h:=ad h;obtain ⟨hb,h⟩:=h;split at h
  .rename_i o hg
   split at h
   .rename_i y us1 h1
    split at h
    .rename_i z us2 h2
     cases h;obtain ⟨lo,hlo,ho⟩:=hs.obj _ o hg;obtain ⟨g1,hm,hhas⟩:=OT.zX hs hu (hok _ List.mem_cons_self) h1 ho;have g2:=ih (fun p hp=>hok p (zan _ hp)) g1.ok h2;refine (g1.trans g2).imp fun Γ' hh id' o' hmem=>?_
     rcases List.mem_cons.1 hmem with hq |hmem
     .cases hq
      exact ⟨hb,⟨_,List.mem_cons_self,rfl⟩,lo,o,hlo,hh.1,hg,hm,hhas⟩
     grind
    .cases h
   .cases h
  .cases h
noncomputable def sU (σ:Nat->Nat) (kn:Nat->Bool) (us:Us) (Γ:aN):aN:=fun k=>bif kn k then Γ (σ k) else
 match us.find? (fun p=>Nat.beq p.1 k) with
 |some (_,some (id,off,len),_)=>(Γ id).map (Loc.cut off len)
 |some (_,none,z)=>some ⟨none,0,z,0⟩
 |none=>none
theorem xc {σ:Nat->Nat} {os:List (Nat×OT)}:∀ {us:Us},tU σ os us=true->∀ c id q z,(c,some (id,q),z)∈us->∀ p∈os,σ p.1≠id:=by
 intro us
 induction us with
 |nil=>grind
 |cons q us ih=>
  intro h c id w z hm p hp;obtain ⟨c',s,z'⟩:=q;cases s with
  |some id'=>
   obtain ⟨id',w'⟩:=id';replace h:=ae h;rcases List.mem_cons.1 hm with hq |hm
   .cases hq
    have:=List.all_eq_true.1 h.1 p hp;intro e;rw [e,Nat.beq_refl] at this;cases this
   grind
  |none=>
   rcases List.mem_cons.1 hm with hq |hm
   .cases hq
   .exact ih h c id w z hm p hp
theorem Lk {σ:Nat->Nat}:∀ {os:List (Nat×OT)},Hf σ os=true->∀ p∈os,∀ q∈os,σ p.1=σ q.1->p=q:=by
 intro os
 induction os with
 |nil=>grind
 |cons a r ih=>
  intro h p hp q hq e;replace h:=ae h;rcases List.mem_cons.1 hp with h1 |h1<;>rcases List.mem_cons.1 hq with h2 |h2
  .rw [h1,h2]
  .have:=List.all_eq_true.1 h.1 q h2
   rw [←h1,e,Nat.beq_refl] at this;cases this
  .have:=List.all_eq_true.1 h.1 p h1
   rw [←h2,←e,Nat.beq_refl] at this;cases this
  grind
theorem Ib {c id:Nat} {q:Nat×Nat} {z:Nat}:∀ {us:Us},(c,some (id,q),z)∈us->id∈fC us:=by
 intro us
 induction us with
 |nil=>intro h;cases h
 |cons p us ih=>
  intro h;obtain ⟨c',s,z'⟩:=p;cases s with
  |some a=>
   obtain ⟨id',w⟩:=a;unfold fC
   grind
  |none=>
   unfold fC
   grind
theorem Pb:∀ {us:Us},us.Pairwise (fun p q=>∀ a b,p.2.1=some a->q.2.1=some b->a.1≠b.1)->∀ {a b:Nat} {id z w:Nat} {q1 q2:Nat×Nat},(a,some (id,q1),z)∈us->(b,some (id,q2),w)∈us->a=b:=by
 intro us
 induction us with
 |nil=>grind
 |cons p us ih=>
  intro hpw a b id z w q1 q2 h1 h2;rw [List.pairwise_cons] at hpw;rcases List.mem_cons.1 h1 with h1 |h1<;>rcases List.mem_cons.1 h2 with h2 |h2
  .rw [←h1] at h2;cases h2;rfl
  .exact absurd rfl (hpw.1 _ h2 (id,q1) (id,q2) (by rw [←h1]) rfl)
  .exact absurd rfl (hpw.1 _ h1 (id,q2) (id,q1) (by rw [←h2]) rfl)
  grind
structure SR (it:du) (σ:Nat->Nat) (us:Us):Prop where
 os:∀ p∈it.os,bI<=p.1/\p.1<it.n0
 A7:Hf σ it.os=true
 apart:tU σ it.os us=true
 us:∀ p∈us,it.n0<=p.1
 n:it.n0<=it.n
 gl:bI<=it.n0
 n2:it.n0<=it.n2
theorem du.TJ {it:du} {σ:Nat->Nat} {us:Us} (h:it.wf σ us=true):SR it σ us:=by
 unfold du.wf at h;replace h:=ae h;obtain ⟨h,h7⟩:=h;replace h:=ae h;obtain ⟨h,h6⟩:=h;replace h:=ae h;obtain ⟨h,h5⟩:=h;replace h:=ae h;obtain ⟨h,h4⟩:=h;replace h:=ae h;obtain ⟨h,h3⟩:=h;replace h:=ae h;obtain ⟨h1,h2⟩:=h;refine ⟨fun p hp=>?_,h2,h3,fun p hp=>aF (List.all_eq_true.1 h4 p hp),aF h5,aF h6,aF h7⟩;have:=ae (List.all_eq_true.1 h1 p hp)
 simp_all
theorem SR.gone {it:du} {σ:Nat->Nat} {us:Us} (h:SR it σ us):SR it.gone σ us:=⟨h.os,h.A7,h.apart,h.us,h.n,h.gl,zal _⟩
theorem du.G1 {it:du} {k:Nat} (h:it.kn k=true):k<bI\/∃ p∈it.os,p.1=k:=by
 unfold du.kn at h
 simp_all
theorem du.Tc {it:du} {k:Nat} (h:k<bI):it.kn k=true:=by
 unfold du.kn
 simp_all
theorem QW {al:List (Nat×Nat)} {k:Nat} (h:k<bI):sg al k=k:=by
 unfold sg;rw [show Nat.blt k bI=true from Nat.ble_eq_true_of_le h];rfl
theorem du.enter (it:du) (hT:it.T.ok P hint) (hs:au P hint sh Γ Pu H I) {al:List (Nat×Nat)} {s:bc it.os} {us:Us} (h:gy (sg al) it.kn H it.n it.os []=some (s,us)) (hw:SR it (sg al) us):
  ∃ Γ',au P hint sh Γ' Pu (it.T.H ((),s)) I/\H8 (sg al) it.kn Γ Γ'/\
   ∀ b,bk Γ' (it.T.H ((),s)) I b->∃ id o l,id∈it.os.map (fun p=>sg al p.1)++fC us/\H.get id=some o/\o.cY=true/\Γ id=some l/\At I l o b:=by
 have g:=Bz hs hT (show gW 0 it.n [] from gW.nil) h;have hu:=g.ok;have hlow:H8 (sg al) it.kn Γ (sU (sg al) it.kn us Γ):=fun k hk=>by unfold sU;rw [hk];rfl
 have hunk:∀ p∈us,it.kn p.1=false:=fun p hp=>by
  cases hk:it.kn p.1 with
  |false=>rfl
  |true=>
   have h1:=hw.us p hp;rcases du.G1 hk with h2 |⟨q,hq,h2⟩
   .have:=hw.gl;omega
   .have:=(hw.os q hq).2;omega
 have hcon:Mr 0 us Γ (sU (sg al) it.kn us Γ):=⟨fun id l h0=>absurd h0 (Nat.not_lt_zero _),fun c s z hm=>by
  have h1:=hunk _ hm;have h2:=Hk hu hm;unfold sU
  grind⟩
 obtain ⟨r2,q2⟩:=g.qF _ hlow hcon
 have all:∀ id o,(it.T.H ((),s)).get id=some o->(it.kn id=true/\∃ lo o',Γ (sg al id)=some lo/\sU (sg al) it.kn us Γ id=some lo/\OR P hint (sU (sg al) it.kn us Γ) Pu I lo o/\H.get (sg al id)=some o'/\o.cY=o'.cY/\(∀ b,o.has I lo b->o'.has I lo b)/\∃ p∈it.os,p.1=id)\/
   (∃ l s z,sU (sg al) it.kn us Γ id=some l/\OR P hint (sU (sg al) it.kn us Γ) Pu I l o/\o.cY=true/\(id,s,z)∈us/\(match s with
    |some (id',_)=>∃ o',H.get id'=some o'/\o'.cY=true/\∀ l0 b,Γ id'=some l0->o.has I l b->o'.has I l0 b
    |none=>l.pos=none)):=by
  intro id o hg;unfold GH.get at hg;split at hg
  .rename_i s' o' heq
   cases hg;obtain ⟨_,hm⟩:=iy heq;rcases List.mem_append.1 hm with hm |hm
   .cases hm
   .rcases List.mem_append.1 hm with hm |hm
    .obtain ⟨a1,a2,lo,o',b1,b2,b3,b4,b5⟩:=r2 id o hm
     exact .inl ⟨a1,lo,o',b1,(hlow id a1).trans b1,b2,b3,b4,b5,a2⟩
    .exact .inr (q2 id o hm)
  .cases hg
 have src:∀ id o l b,(it.T.H ((),s)).get id=some o->o.cY=true->sU (sg al) it.kn us Γ id=some l->At I l o b->∃ id0 o0 l0,H.get id0=some o0/\o0.cY=true/\Γ id0=some l0/\At I l0 o0 b/\((id0=sg al id/\∃ p∈it.os,p.1=id)\/∃ q z,(id,some (id0,q),z)∈us):=by
  intro id o l b hg hm hl hat;rcases all id o hg with ⟨a1,lo,o',b1,b2,_,b3,b4,b6,b5⟩ |⟨l',s,z,b1,_,b2,b3,b4⟩
  .cases hl.symm.trans b2
   exact ⟨sg al id,o',_,b3,b4▸hm,b1,hat.imp (fun h=>h) (b6 b),.inl ⟨rfl,b5⟩⟩
  .cases hl.symm.trans b1
   cases s with
   |none=>
    simp only at b4
    exfalso
    rcases hat with ⟨y,hp⟩ |hh
    .grind
    .cases o with
     |nest=>obtain ⟨i,_,_,b0,o0,_,_,_,_,_,hp',_⟩:=hh;grind
     |gw=>obtain ⟨i,x,b0,o,_,_,_,_,_,hp',_⟩:=hh;grind
     |_=>cases hh
   |some q=>
    obtain ⟨id',off,len⟩:=q;obtain ⟨o',c1,c2,c3⟩:=b4;have:=hcon.us _ _ _ b3;simp only at this;have h4:=this.symm.trans hl;cases hg0:Γ id' with
    |none=>grind
    |some l0=>
     rw [hg0] at h4;cases h4;refine ⟨id',o',l0,c1,c2,hg0,?_,.inr ⟨_,z,b3⟩⟩;rcases hat with ⟨y,hp⟩ |hh
     .simp only [Loc.cut,Option.map_eq_some_iff] at hp
      obtain ⟨p,hp1,hp2⟩:=hp;cases hp2;exact .inl ⟨p.2,hp1⟩
     .exact .inr (c3 l0 b hg0 hh)
 have own1:∀ b,bk (sU (sg al) it.kn us Γ) (it.T.H ((),s)) I b->∃ id o l,id∈it.os.map (fun p=>sg al p.1)++fC us/\H.get id=some o/\o.cY=true/\Γ id=some l/\At I l o b:=by
  rintro b ⟨id,o,l,hg,hm,hl,hp⟩;obtain ⟨j1,p1,m1,c1,c2,c3,c5,c6⟩:=src id o l b hg hm hl hp;refine ⟨j1,p1,m1,?_,c1,c2,c3,c5⟩;rcases c6 with ⟨rfl,p,hp1,hp2⟩ |⟨q,z,hm⟩
  .grind
  .exact List.mem_append_right _ (Ib hm)
 refine ⟨sU (sg al) it.kn us Γ,⟨?_,?_,?_,?_,hs.fresh,hs.pu,hs.ro,Nat.le_trans hw.gl hw.n,?_,?_,hs.FT⟩,hlow,own1⟩
 .intro id o hg
  rcases all id o hg with ⟨_,lo,_,_,b2,b3,_⟩ |⟨l,_,_,b1,b2,_⟩
  .exact ⟨lo,b2,b3⟩
  grind
 .intro i1 i2 o1 o2 l1 l2 b hg1 hg2 hm1 hm2 hl1 hl2 hp1 hp2
  obtain ⟨j1,p1,m1,c1,c2,c3,c5,c4⟩:=src i1 o1 l1 b hg1 hm1 hl1 hp1;obtain ⟨j2,p2,m2,d1,d2,d3,d5,d4⟩:=src i2 o2 l2 b hg2 hm2 hl2 hp2;have hj:=hs.inj j1 j2 p1 p2 m1 m2 b c1 d1 c2 d2 c3 d3 c5 d5;rcases c4 with ⟨e1,p,e2,e3⟩ |⟨q1,z1,e1⟩<;>rcases d4 with ⟨f1,q,f2,f3⟩ |⟨q2,z2,f1⟩
  .have:=Lk hw.A7 p e2 q f2 (by rw [e3,f3,←e1,←f1];exact hj)
   grind
  .exact absurd (show sg al p.1=j2 by grind) (xc hw.apart _ _ _ _ f1 p e2)
  .exact absurd (show sg al q.1=j1 by grind) (xc hw.apart _ _ _ _ e1 q f2)
  .subst hj
   exact Pb hu.ii e1 f1
 .intro b hb hpu
  obtain ⟨id,o,l,_,h1,h2,h3,h4⟩:=own1 b hb;exact hs.sep b ⟨id,o,l,h1,h2,h3,h4⟩ hpu
 .intro id l hl
  show id<it.n
  unfold sU at hl;cases hk:it.kn id with
  |true=>
   rcases du.G1 hk with h2 |⟨q,hq,h2⟩
   .exact Nat.lt_of_lt_of_le h2 (Nat.le_trans hw.gl hw.n)
   .have:=(hw.os q hq).2;have:=hw.n;omega
  |false=>
   rw [hk] at hl;simp only [zab] at hl;cases hf:us.find? (fun p=>Nat.beq p.1 id) with
   |none=>grind
   |some p=>
    have h3:=List.find?_some hf;have h4:=List.mem_of_find?_eq_some hf;have:=(hu.c p h4).2
    simp_all
 .intro g' hg'
  obtain ⟨l,h3,h4⟩:=hs.cq g' hg';exact ⟨l,(hlow g' (du.Tc hg')).trans (by rw [QW hg'];exact h3),h4⟩
 .intro id s hst
  unfold GH.aH at hst;split at hst
  .rename_i s' o' heq
   cases hst;obtain ⟨h5,_⟩:=iy heq
   show s<0+1
   have:s=0:=h5;omega
  .cases hst
theorem Qc {σ:Nat->Nat} {kn:Nat->Bool} (hc:H8 σ kn Γ Γ'):∀ {ts vs:List TV} {ws:List Value},RG σ kn ts vs=true->br Γ Pu I vs ws->br Γ' Pu I ts ws:=by
 intro ts
 induction ts with
 |nil=>intro vs ws h hr;cases vs with
  |nil=>cases hr;exact .nil
  |cons=>cases h
 |cons t r ih=>
  intro vs ws h hr;cases hr with
  |nil=>cases h
  |cons a b=>
   replace h:=ae h;obtain ⟨h,h3⟩:=h;replace h:=ae h;exact .cons (MA hc h.1 (nI h.2 a)) (ih h3 b)
end
end Go.Gv
/- Functions that are handed pointers: what is handed back; by its text; by depth; all that is known. -/
namespace Go.Gv
open Go Go.Iv
section
variable {P:Program} {hint:Hint} {sh:bU} {O:Nat->Prop} {Γ Γ1 Γ2 Γ':aN} {Pu Pu1 Pu2:Nat->Prop} {H H1 H2:GH} {I I1:IH} {Z:Type} {r:Z}
structure FX (P:Program) (hint:Hint) (sh:bU) (n0:Nat) (Γ:aN) (Pu:Nat->Prop) (H:GH) (I:IH) (Γ1:aN) (Pu1:Nat->Prop) (H1:GH) (I1:IH):Prop where
 dH:au P hint sh Γ1 Pu1 H1 I1
 low:∀ k l,k<n0->Γ k=some l->Γ1 k=some l
 n:I.n<=I1.n
 p:∀ b,Pu b->Pu1 b
 cE:∀ b,b<I.n->¬ bk Γ H I b->I1.get b=I.get b
 own:∀ b,b<I.n->bk Γ1 H1 I1 b->bk Γ H I b
 pn:∀ b,b<I.n->Pu1 b->Pu b\/bk Γ H I b
structure Q5 (Pu:Nat->Prop) (I:IH) (Pu1:Nat->Prop) (I1:IH):Prop where
 n:I.n<=I1.n
 cE:∀ b,b<I.n->I1.get b=I.get b
 fresh:∀ b,I1.n<=b->I1.get b=none
 pu:∀ b,Pu1 b->∃ cs et fz ex sd,I1.get b=some (.cells cs et fz ex sd)
 pn:∀ b,b<I.n->Pu1 b->Pu b
 p:∀ b,Pu b->Pu1 b
theorem KW {it:du} {s:bc it.os} {H2:GH} (hr:Gi H2 ((dP it.os s).1++(dP it.os s).2)=true) (hs:au P hint sh Γ1 Pu1 H2 I1) (e:Ex (bk Γ (it.T.H ((),s)) I) Γ Pu (it.T.H ((),s)) I Γ1 Pu1 H2 I1):Q5 Pu I Pu1 I1:=by
 have key:∀ {l:xH},Gi H2 l=true->∀ {id:Nat} {o:bu},(id,o)∈l->QS o=true/\∃ o1,H2.t.k9 id=some (0,o1)/\o1.cY=true:=by
  intro l
  induction l with
  |nil=>grind
  |cons p r ih=>
   intro hl id o hm;obtain ⟨k,q⟩:=p;replace hl:=ae hl;grind
 have own:∀ b,bk Γ (it.T.H ((),s)) I b->(∃ id o l y,(it.T.H ((),s)).aH id=some 0/\H2.aH id=some 0/\H2.get id=some o/\o.cY=true/\Γ id=some l/\l.pos=some (b,y)):=by
  rintro b ⟨id,o,l,hg,hm,hl,hat⟩;have hst:∃ z,(it.T.H ((),s)).t.k9 id=some (z,o):=by
   unfold GH.get at hg;split at hg
   .grind
   .cases hg
  obtain ⟨z,hst⟩:=hst;obtain ⟨e1,e2⟩:=iy hst;have e1:z=0:=e1;have e2:(id,o)∈(dP it.os s).1++(dP it.os s).2:=e2;obtain ⟨h1,o1,h2,h3⟩:=key hr e2;have s0:(it.T.H ((),s)).aH id=some 0:=by unfold GH.aH;rw [hst,e1]
  have s2:H2.aH id=some 0:=by unfold GH.aH;rw [h2]
  have g2:H2.get id=some o1:=by unfold GH.get;rw [h2]
  rcases hat with ⟨y,hp⟩ |hh
  .grind
  .cases o<;>first |(cases h1;done) |(cases hh;done)
 refine ⟨e.n,fun b hb=>?_,hs.fresh,hs.pu,fun b hb hp=>?_,e.p⟩
 .by_cases ho:bk Γ (it.T.H ((),s)) I b
  .obtain ⟨id,o,l,y,a1,a2,_,_,a5,a6⟩:=own b ho
   exact e.jv id l b y 0 a1 a2 a5 a6
  .exact e.cE b hb ho
 .rcases e.pn b hb hp with h |h
  .exact h
  .obtain ⟨id,o,l,y,a1,a2,a3,a4,a5,a6⟩:=own b h
   exact absurd hp (hs.sep b (.pos a3 a4 (e.g _ _ a5) a6))
theorem R2.S6 {A:Type}:∀ {ow:Option (List T1)} {x:np (E2 ow)×A},R2.to ow (R2.of ow x)=x:=by
 intro ow x;cases ow with
 |none=>rfl
 |some l=>rfl
def Uc (it:du) (Γ1:aN) (Pu1:Nat->Prop) (I1:IH) (y:aw it.re×R2 it.ow (bc it.xY)) (v:Value):Prop:=
 ∀ (Γ2:aN) (ρ:Nat->Nat),(it.ro=true\/∀ k l,(it.kn k=true\/it.n0<=k/\k<it.n2)->Γ1 k=some l->Γ2 (ρ k)=some l)->GR Γ2 Pu1 I1 (Rq (R0 ρ it.ow y.2) (dC it.re y.1)) v
def HT (P:Program) (hint:Hint) (sh:bU) (it:du) (m:Nat) (Γ:aN) (Pu:Nat->Prop) (I:IH) (s:bc it.os) (ws:List Value):(aw it.re×R2 it.ow (bc it.xY))⊕(TypeId×Int)->Prop
 | .inl y=>∃ Γ1 Pu1 I1 v,cX P hint (ev P hint (cj hint) m) it.f ws I=some (.returned v,I1)/\Uc it Γ1 Pu1 I1 y v/\(it.ro=false->FX P hint sh it.n0 Γ Pu (it.T.H ((),s)) I Γ1 Pu1 (it.T2.H (R2.to it.ow y.2)) I1)/\(it.ro=true->Q5 Pu I Pu1 I1)
 | .inr p=>∃ Γ1 Pu1 I1,cX P hint (ev P hint (cj hint) m) it.f ws I=some (.panicked (LL p.1 p.2),I1)/\FX P hint sh it.n0 Γ Pu (it.T.H ((),s)) I Γ1 Pu1 (it.gone.T2.H ((),())) I1
theorem HT.gS {it:du} {D D':Nat} {F F':Nat->aw it.pa×bc it.os->Option (PR it.pt (aw it.re×R2 it.ow (bc it.xY)))} {m:Nat} {s:bc it.os} {ws:List Value} {y:(aw it.re×R2 it.ow (bc it.xY))⊕(TypeId×Int)} (h:HT P hint sh { it with D:=D,F:=F } m Γ Pu I s ws y):HT P hint sh { it with D:=D',F:=F' } m Γ Pu I s ws y:=by
 cases y<;>exact h
structure cC (P:Program) (hint:Hint) (sh:bU) (it:du) (n:Nat):Prop where
 run:∀ {x:aw it.pa×bc it.os} {y:PR it.pt (aw it.re×R2 it.ow (bc it.xY))} {Γ:aN} {Pu:Nat->Prop} {I:IH} {us vs:List Value},it.F n x=some y->au P hint sh Γ Pu (it.T.H ((),x.2)) I->br Γ Pu I it.ar us->sN Pu I it.pa x.1 vs->
  HT P hint sh it (n+it.D) Γ Pu I x.2 (us++vs) (PR.el it.pt y)
theorem PR.TO {A B:Type} {f:A->B} {g:TypeId->Int->B}:∀ {p:Option TypeId} {y:PR p A},PR.cs p y f g=(match PR.el p y with
  | .inl y=>f y
  | .inr q=>g q.1 q.2):=by
 intro p y;cases p with
 |none=>rfl
 |some t=>cases y<;>rfl
theorem PR.S7 {A:Type} {c:Bool} {p:Option TypeId} {t:TV} {v:Value} {o:Option A} {y:PR p A} (h:PR.mk c p t o=some y) (hr:GR Γ Pu I t v):∃ a,o=some a/\PR.el p y= .inl a:=by
 cases p with
 |none=>exact ⟨y,h,rfl⟩
 |some q=>
  simp only [PR.mk,yM hr] at h;cases o with
  |none=>cases h
  |some a=>cases h;exact ⟨a,rfl,rfl⟩
theorem PR.SE {A:Type} {c:Bool} {p:Option TypeId} {w:Value} {o:Option A} {y:PR p A} (h:PR.mk c p (.J6 w) o=some y) (ho:o=none):∃ t e,w=LL t e/\PR.el p y= .inr (t,e)/\c=true:=by
 cases p with
 |none=>simp only [PR.mk] at h;grind
 |some q=>
  simp only [PR.mk,LM] at h;split at h
  .rename_i e he
   replace h:=ad h;cases h.2;exact ⟨q,e,CU he,rfl,h.1⟩
  .cases h
theorem L0 {ow:Option (List T1)} {re:List (Bool×Sh)} {w:Value}:KS ow re (.J6 w) H=none:=by
 unfold KS;cases ow with
 |some l=>rfl
 |none=>
  unfold F9;simp only;cases hd:nD re [.J6 w] H with
  |none=>rfl
  |some x=>exact (CF hd).elim
theorem Jo {it:du} {s:bc it.os} {w:Value}:Hn it s (.J6 w) H=none:=by
 unfold Hn;rw [L0]
theorem Kn {l:List (Bool×Sh)} {t:TV} {v:Value} {x:aw l} (hs:au P hint sh Γ Pu H I) (h:F9 l t H=some (x,H1)) (hr:GR Γ Pu I t v):
  ∃ Pu1,au P hint sh Γ Pu1 H1 I/\Ex (bk Γ H I) Γ Pu H I Γ Pu1 H1 I/\∀ Γ2,GR Γ2 Pu1 I (jk (dC l x)) v:=by
 unfold F9 at h;split at h
 .rename_i vs
  cases hr with |ja hr=>
  cases hb:Nat.beq l.length 1 with
  |true=>grind
  |false=>
   rw [hb] at h;simp only [zab] at h;obtain ⟨Pu1,s1,e1,d1⟩:=ji hs h hr;refine ⟨Pu1,s1,e1,fun Γ2=>?_⟩;have hl:=rZ (l:=l) (x:=x);have hg:=d1.QV (Γ:=Γ2);have:jk (dC l x)= .ja (dC l x):=by
    cases hq:dC l x with
    |nil=>rfl
    |cons a r=>
     cases r with
     |nil=>simp_all
     |cons b r=>rfl
   rw [this];exact .ja hg
 .obtain ⟨Pu1,s1,e1,d1⟩:=ji hs h (.cons hr .nil)
  refine ⟨Pu1,s1,e1,fun Γ2=>?_⟩;have hg:=d1.QV (Γ:=Γ2);cases hq:dC l x with
  |nil=>rw [hq] at hg;cases hg
  |cons a r=>
   rw [hq] at hg;cases hg with |cons c d=>cases d;exact c
theorem B8 {kn:Nat->Bool} {n0 n2:Nat} {ρ:Nat->Nat} (hρ:∀ k l,(kn k=true\/n0<=k/\k<n2)->Γ1 k=some l->Γ2 (ρ k)=some l):∀ {cs:List TV} {vs:List Value},cs.all (Gb kn n0 n2)=true->br Γ1 Pu I cs vs->br Γ2 Pu I (cs.map (Hw ρ)) vs:=by
 intro cs
 induction cs with
 |nil=>intro vs _ h;cases h;exact .nil
 |cons t r ih=>
  intro vs hn h;simp only [List.all_cons,zae] at hn;cases h with |cons a b=>
  refine .cons ?_ (ih hn.2 b);have hn1:=hn.1;cases t with
  |int k n=>cases a;exact .int k n
  |byte c=>cases a;exact .byte c
  |bool c=>cases a;exact .bool c
  |str c=>cases a;exact .str c
  |aB e xs nl cl=>cases a with |aB x y z=>exact .aB x y z
  |raw v=>cases a;exact .raw _
  |undef=>exact .undef _
  |all c=>
   cases a with |all x y=>
   refine .all (hρ c _ ?_ x) y;unfold Gb at hn1
   simp_all
  |ptr c o=>cases a with |ptr x y=>exact .ptr (hρ c _ (.inl hn1) x) y
  |mp c=>cases a with |mp x y=>exact .mp (hρ c _ (.inl hn1) x) y
  |_=>cases hn1
def Ue (Γ:aN) (Pu1:Nat->Prop) (I:IH) (ow:Option (List T1)) (re:List (Bool×Sh)) (x:aw re) (w:TV) (v:Value):Prop:=
 match ow with
 |none=>w= .undef/\∀ Γ2,GR Γ2 Pu1 I (jk (dC re x)) v
 |some _=>∃ w',GR Γ Pu1 I w w'/\∀ Γ2 t,GR Γ2 Pu1 I t w'->GR Γ2 Pu1 I (jk (t::dC re x)) v
theorem Ue.res {A:Type} {kn:Nat->Bool} {n0 n2:Nat} {ow:Option (List T1)} {re:List (Bool×Sh)} {x:aw re} {y:np (E2 ow)×A} {w:TV} {v:Value} (g:Ue Γ Pu1 I ow re x w v):
  ∃ w',GR Γ Pu1 I w w'/\∀ Γ3,GR Γ3 Pu1 I (eT (j8 (E2 ow) y.1).1 0) w'->∀ (Γ2:aN) (ρ:Nat->Nat),To kn n0 n2 ow (R2.of ow y)=true->(ow=none\/∀ k l,(kn k=true\/n0<=k/\k<n2)->Γ3 k=some l->Γ2 (ρ k)=some l)->GR Γ2 Pu1 I (Rq (R0 ρ ow (R2.of ow y)) (dC re x)) v:=by
 cases ow with
 |none=>
  obtain ⟨h1,h2⟩:=g;subst h1;exact ⟨aO,.undef _,fun Γ3 _ Γ2 ρ _ _=>h2 Γ2⟩
 |some l=>
  obtain ⟨w',h1,h2⟩:=g;refine ⟨w',h1,fun Γ3 h3 Γ2 ρ hg hn=>?_⟩;have h3:GR Γ3 Pu1 I (.agg (oC l y.1.1).1) w':=h3;rcases hn with hn |hn
  .cases hn
  .generalize hq:TV.agg (oC l y.1.1).1=q at h3
   cases h3 with
   |agg h4=>cases hq;exact h2 Γ2 _ (.agg (B8 hn hg h4))
   |_=>cases hq
theorem OA {ow:Option (List T1)} {re:List (Bool×Sh)} {t w:TV} {v:Value} {x:aw re} (hs:au P hint sh Γ Pu H I) (h:KS ow re t H=some (x,w,H1)) (hr:GR Γ Pu I t v):
  ∃ Pu1,au P hint sh Γ Pu1 H1 I/\Ex (bk Γ H I) Γ Pu H I Γ Pu1 H1 I/\Ue Γ Pu1 I ow re x w v:=by
 unfold KS at h;cases ow with
 |none=>
  simp only at h;split at h
  .rename_i y H2 hy
   cases h;obtain ⟨Pu1,s1,e1,g1⟩:=Kn hs hy hr;exact ⟨Pu1,s1,e1,rfl,g1⟩
  .cases h
 |some l=>
  simp only at h;split at h
  .rename_i cs u vs
   split at h
   .rename_i y H2 hy
    cases h;cases hr with |ja hr=>
    cases hr with |cons a b=>
    obtain ⟨Pu1,s1,e1,d1⟩:=ji hs hy b;obtain ⟨s2,e2⟩:=qz (l:=l) (vs:=cs) s1;refine ⟨Pu1,s2,Ex.trans hs s1 e1 e2,?_⟩;refine ⟨_,a.mono (e1.cy hs),fun Γ2 t ht=>?_⟩;have hg:=d1.QV (Γ:=Γ2);cases b with |cons b1 b2=>
    cases hq:dC re x with
    |nil=>rw [hq] at hg;cases hg
    |cons q r=>rw [hq] at hg;exact .ja (.cons ht hg)
   .cases h
  .rename_i cs
   split at h
   .rename_i y H2 hy
    cases h;obtain ⟨Pu1,s1,e1,d1⟩:=ji hs hy .nil;obtain ⟨s2,e2⟩:=qz (l:=l) (vs:=cs) s1;refine ⟨Pu1,s2,Ex.trans hs s1 e1 e2,?_⟩;refine ⟨_,hr.mono (e1.cy hs),fun Γ2 t ht=>?_⟩;have hg:=d1.QV (Γ:=Γ2);cases hq:dC re x with
    |nil=>exact ht
    |cons q r=>rw [hq] at hg;cases hg
   .cases h
  .cases h
theorem cC.of {it:du} {n:Nat} {hk:(Z:Type)->rW Z} {sh:bU} (hT2:it.T2.ok P hint) (ho:∀ m,m<=n+it.D->rC P hint sh (hk (PR it.pt (aw it.re×R2 it.ow (bc it.xY)))) m)
  (h:∀ x s,nc stx P sh hint (gv stx P sh hint (hk (PR it.pt (aw it.re×R2 it.ow (bc it.xY)))) (n+it.D)) it.f (it.ar++dC it.pa x) (it.T.H ((),s)) (RF it s)=it.F n (x,s)):cC P hint sh it n where
 run:=fun {x y Γ Pu I us vs} hF hs ha hd=>by
  have ok:=Ld (P:=P) (hint:=hint) (sh:=sh) (hk:=hk (PR it.pt (aw it.re×R2 it.ow (bc it.xY)))) (n+it.D) ho;rw [←h x.1 x.2] at hF;rcases pT ok hs hF (ha.append (hd.QV (Γ:=Γ))) with ⟨t,H1,Γ1,Pu1,v,I1,k1,k2,k3,k4,k5⟩ |⟨w,H1,Γ1,Pu1,I1,k1,k2,k4,k5⟩
  .obtain ⟨a,k1,hel⟩:=PR.S7 k1 k3
   rw [hel];unfold Hn at k1;split at k1
   .rename_i z w H2 hz
    replace k1:=ad k1;obtain ⟨hro,k1⟩:=k1;split at k1
    .rename_i s hst
     cases k1;unfold Ri at hst;split at hst
     .rename_i s0 hst0
      replace hst:=ad hst;obtain ⟨hgo,hst⟩:=hst;cases hst;obtain ⟨Pu2,s2,e2,g2⟩:=OA k4 hz k3;obtain ⟨q1,q2⟩:=BS (l:=it.T2.fZ) s2;have hnE:∀ (H:GH),jZ it.T2.env (.c 0 w .e) H=(.c 0 w .e,H):=by
       intro H;unfold du.T2;cases it.ow with
       |none=>rfl
       |some l=>rfl
      have hst':it.T2.get ⟨.c 0 w .e,.e⟩ (mW it.T2.fZ H2)=some s0:=by
       unfold Tm.take at hst0;rw [hnE] at hst0;exact hst0
      have ee:=Ex.trans hs s2 (Ex.trans hs k4 k5 e2) q2;obtain ⟨w',hw',hgoal⟩:=g2.res (kn:=it.kn) (n0:=it.n0) (n2:=it.n2) (y:=s0);have hE:ER Γ1 Pu2 I1 ⟨.c 0 w .e,.e⟩ ⟨.c 0 w' .e,.e⟩:=fun t=>by
       refine ⟨?_,.undef _⟩;cases t with
       |zero=>exact hw'
       |succ t=>exact .undef _
      obtain ⟨Γ3,t1,t2,t3,t4,_⟩:=it.T2.gF hT2 q1 hE hst';have hto:R2.to it.ow (R2.of it.ow s0)=s0:=R2.S6;refine ⟨Γ3,Pu2,I1,v,k2,fun Γ2 ρ hn=>hgoal Γ3 (t2 0).1 Γ2 ρ hgo ?_,fun _=>?_,fun hr=>?_⟩
      .grind
      .show FX P hint sh it.n0 Γ Pu (it.T.H ((),x.2)) I Γ3 Pu2 (it.T2.H (R2.to it.ow (R2.of it.ow s0))) I1
       rw [hto];exact ⟨t1,fun k l hk hl=>t3 k l hk (ee.g k l hl),ee.n,ee.p,ee.cE,fun b hb ho=>ee.own b hb (t4 b ho),ee.pn⟩
      rw [hr] at hro;exact KW (it:=it) (s:=x.2) (ae hro).2 s2 (Ex.trans hs k4 k5 e2)
     .cases hst
    .cases k1
   .cases k1
  .obtain ⟨t,e,rfl,hel,hb0⟩:=PR.SE k1 Jo
   rw [hel];replace hb0:=ae hb0;have hbx:(Nat.ble it.n0 H1.n &&Nat.ble it.n0 it.n0 &&Nat.ble bI it.n0)=true:=by
    rw [hb0.1,hb0.2,Nat.ble_eq_true_of_le (zal _)];rfl
   have hT3:it.gone.T2.ok P hint:=fun p hp=>by cases hp
   obtain ⟨Γ3,t1,_,t3,t4,_⟩:=it.gone.T2.gF hT3 k4 (E:=⟨.e,.e⟩) (E':=⟨.e,.e⟩) (fun t=>⟨.undef _,.undef _⟩) (x:=((),())) (by unfold Tm.get;rw [show (Nat.ble it.gone.T2.n0 H1.n &&Nat.ble it.gone.T2.n0 it.gone.T2.n &&Nat.ble bI it.gone.T2.n0)=true from hbx];rfl);exact ⟨Γ3,Pu1,I1,k2,t1,fun k l hk hl=>t3 k l hk (k5.g k l hl),k5.n,k5.p,k5.cE,fun b hb ho=>k5.own b hb (t4 b ho),k5.pn⟩
theorem KK {fr:List Nat}:∀ {H:GH} {k:Nat},(Go.Gv.eS fr H).get k=if k∈fr then none else H.get k:=by
 induction fr with
 |nil=>intro H k;rfl
 |cons a r ih=>
  intro H k
  show (Go.Gv.eS r (H.del a)).get k=_
  rw [ih,GH.cf]
  grind
theorem Fy {fr:List Nat}:∀ {H:GH} {k:Nat},(Go.Gv.eS fr H).aH k=if k∈fr then none else H.aH k:=by
 induction fr with
 |nil=>intro H k;rfl
 |cons a r ih=>
  intro H k
  show (Go.Gv.eS r (H.del a)).aH k=_
  rw [ih,GH.eu]
  grind
theorem KZ {kn:Nat->Bool} {n0 n2 ck:Nat} {ρ:Nat->Nat} {Hc:GH} {t:Tr (Nat×bu)}:∀ {ks:List Nat} {id:Nat} {p:Nat×bu},(Ed kn n0 n2 ck ρ Hc ks t).k9 id=some p->
  (∃ k o,Hc.get k=some o/\(kn k=true\/n0<=k/\k<n2)/\ux kn n0 n2 o=true/\id=ρ k/\p=(ck,AZ ρ o))\/t.k9 id=some p:=by
 intro ks
 induction ks with
 |nil=>intro id p h;exact .inr h
 |cons k r ih=>
  intro id p h;unfold Ed at h;split at h
  .rename_i o hg
   cases hb:((kn k ||(Nat.ble n0 k &&Nat.blt k n2)) &&ux kn n0 n2 o) with
   |false=>grind
   |true=>
    rw [hb] at h;simp only [zac,Tr.fq,Tr.eI] at h;have hp:=Tr.ag (Ed kn n0 n2 ck ρ Hc r t) (ρ k) (some (ck,AZ ρ o)) id;unfold Tr.put at hp;rw [hp] at h;split at h
    .rename_i e
     cases h;replace hb:=ae hb;refine .inl ⟨k,o,hg,?_,hb.2,e,rfl⟩
     simp_all
    .rw [←Tr.fq] at h;exact ih h
  .exact ih h
theorem qf (ρ:Nat->Nat) (o:bu):(AZ ρ o).cY=o.cY:=by cases o<;>rfl
theorem lq {ρ:Nat->Nat} {o:bu} {l:Loc} {b:Nat}:(AZ ρ o).has I l b↔o.has I l b:=by cases o<;>exact Iff.rfl
theorem O1 {kn:Nat->Bool} {n0 n2:Nat} {ρ:Nat->Nat} (hρ:∀ k l,(kn k=true\/n0<=k/\k<n2)->Γ1 k=some l->Γ2 (ρ k)=some l) {o:bu} {l:Loc} (hg:ux kn n0 n2 o=true) (h:OR P hint Γ1 Pu I l o):OR P hint Γ2 Pu I l (AZ ρ o):=by
 cases o with
 |cells et cs w=>
  obtain ⟨b,vs,fz,ex,sd,hp,hgb,hr,hw,hpu⟩:=h;exact ⟨b,vs,fz,ex,sd,hp,hgb,B8 hρ hg hr,hw,hpu⟩
 |arr et e xs w fz em=>exact h
 |iter s p=>exact h
 |map kt gk ge k e xs em=>exact h
 |nest et e no net ne xs em ho=>
  have:ho=none:=by simpa [ux] using hg
  exact bo.R7 h this
 |gw=>cases hg
 |loop=>cases hg
def vQ (n0 n2 m:Nat) (Γ Γ1:aN):aN:=fun id=>if id<m then Γ id else if id<m+(n2 - n0) then Γ1 (n0+(id - m)) else none
theorem du.leave (it:du) (hs:au P hint sh Γ Pu H I) {al:List (Nat×Nat)} {us:Us} {s:bc it.os} {y:it.T2.ty} (hw:SR it (sg al) us) (hlow:H8 (sg al) it.kn Γ Γ') (hs':au P hint sh Γ' Pu (it.T.H ((),s)) I)
  (hobj:∀ p∈it.os,∃ o,H.get (sg al p.1)=some o)
  (hown:∀ b,bk Γ' (it.T.H ((),s)) I b->∃ id o l,id∈it.os.map (fun p=>sg al p.1)++fC us/\H.get id=some o/\o.cY=true/\Γ id=some l/\At I l o b)
  (hl:FX P hint sh it.n0 Γ' Pu (it.T.H ((),s)) I Γ1 Pu1 (it.T2.H y) I1):
  au P hint sh (vQ it.n0 it.n2 H.n Γ Γ1) Pu1 (it.oZ (sg al) us H y) I1/\Ex (bk Γ H I) Γ Pu H I (vQ it.n0 it.n2 H.n Γ Γ1) Pu1 (it.oZ (sg al) us H y) I1/\∀ k l,(it.kn k=true\/it.n0<=k/\k<it.n2)->Γ1 k=some l->vQ it.n0 it.n2 H.n Γ Γ1 (Oi (sg al) it.n0 H.n k)=some l:=by
 have hG:∀ id l,Γ id=some l->vQ it.n0 it.n2 H.n Γ Γ1 id=some l:=fun id l h=>by
  unfold vQ;rw [if_pos (hs.aT id l h)];exact h
 have hρ:∀ k l,(it.kn k=true\/it.n0<=k/\k<it.n2)->Γ1 k=some l->vQ it.n0 it.n2 H.n Γ Γ1 (Oi (sg al) it.n0 H.n k)=some l:=by
  intro k l hk h1;rcases hk with hk |⟨h2,h3⟩
  .have hlt:k<it.n0:=by
    rcases du.G1 hk with h2 |⟨q,hq,h2⟩
    .exact Nat.lt_of_lt_of_le h2 hw.gl
    .have:=(hw.os q hq).2;omega
   have:∃ l0,Γ (sg al k)=some l0:=by
    rcases du.G1 hk with h2 |⟨q,hq,h2⟩
    .obtain ⟨l0,h3,_⟩:=hs.cq k h2
     exact ⟨l0,by rw [QW h2];exact h3⟩
    .obtain ⟨o,ho⟩:=hobj q hq
     obtain ⟨l0,h3,_⟩:=hs.obj _ o ho;exact ⟨l0,by rw [←h2];exact h3⟩
   obtain ⟨l0,h4⟩:=this;have h5:=hl.low k l0 hlt ((hlow k hk).trans h4);cases h1.symm.trans h5;unfold Oi;rw [show Nat.blt k it.n0=true from Nat.ble_eq_true_of_le hlt]
   grind
  .have hb:Nat.blt k it.n0=false:=by
    cases hq:Nat.blt k it.n0 with
    |false=>rfl
    |true=>have:=c7 hq;omega
   unfold Oi vQ
   grind
 have hO:∀ b,bk Γ' (it.T.H ((),s)) I b->bk Γ H I b:=fun b hb=>by
  obtain ⟨id,o,l,_,h1,h2,h3,h4⟩:=hown b hb;exact ⟨id,o,l,h1,h2,h3,h4⟩
 have hpuI:∀ b,Pu b->I1.get b=I.get b:=fun b hb=>hl.cE b (hs.iT hb) fun ho=>hs'.sep b ho hb
 have kk:cp Γ Pu I (vQ it.n0 it.n2 H.n Γ Γ1) Pu1 I1:=⟨hG,hl.p,hpuI⟩;have frame:∀ id o l b,id∉it.os.map (fun p=>sg al p.1)++fC us->H.get id=some o->o.cY=true->Γ id=some l->At I l o b->b<I.n/\¬ bk Γ' (it.T.H ((),s)) I b:=by
  intro id o l b hid hg hm hl' hat;refine ⟨hs.bJ ⟨id,o,l,hg,hm,hl',hat⟩,fun ho=>?_⟩;obtain ⟨id2,o2,l2,h0,h1,h2,h3,h4⟩:=hown b ho;have:=hs.inj id id2 o o2 l l2 b hg h1 hm h2 hl' h3 hat h4;exact hid (this▸h0)
 have frameI:∀ id o l,id∉it.os.map (fun p=>sg al p.1)++fC us->H.get id=some o->o.cY=true->Γ id=some l->∀ b,At I l o b->I1.get b=I.get b:=by
  intro id o l hid hg hm hl' b hat;obtain ⟨h1,h2⟩:=frame id o l b hid hg hm hl' hat;exact hl.cE b h1 h2
 have frameA:∀ id o l,id∉it.os.map (fun p=>sg al p.1)++fC us->H.get id=some o->o.cY=true->Γ id=some l->∀ b,At I1 l o b->At I l o b:=by
  intro id o l hid hg hm hl' b hat;exact hat.congr fun b x hp=>frameI id o l hid hg hm hl' b (.inl ⟨x,hp⟩)
 have cases2:∀ id s' o,(it.oZ (sg al) us H y).t.k9 id=some (s',o)->
   (∃ k o',(it.T2.H y).get k=some o'/\(it.kn k=true\/it.n0<=k/\k<it.n2)/\ux it.kn it.n0 it.n2 o'=true/\id=Oi (sg al) it.n0 H.n k/\s'=H.ck/\o=AZ (Oi (sg al) it.n0 H.n) o')\/
   (id∉it.os.map (fun p=>sg al p.1)++fC us/\H.get id=some o/\H.aH id=some s'):=by
  intro id s' o h;rcases KZ h with ⟨k,o',h1,h2,h3,h4,h5⟩ |h
  .grind
  .right
   have hgd:(Go.Gv.eS (it.os.map (fun p=>sg al p.1)++fC us) H).get id=some o:=by unfold GH.get;rw [h]
   have hsd:(Go.Gv.eS (it.os.map (fun p=>sg al p.1)++fC us) H).aH id=some s':=by unfold GH.aH;rw [h]
   rw [KK] at hgd;rw [Fy] at hsd
   grind
 have getC:∀ id o,(it.oZ (sg al) us H y).get id=some o->
   (∃ k o' l,(it.T2.H y).get k=some o'/\(it.kn k=true\/it.n0<=k/\k<it.n2)/\ux it.kn it.n0 it.n2 o'=true/\id=Oi (sg al) it.n0 H.n k/\o=AZ (Oi (sg al) it.n0 H.n) o'/\Γ1 k=some l/\vQ it.n0 it.n2 H.n Γ Γ1 id=some l/\OR P hint Γ1 Pu1 I1 l o')\/
   (id∉it.os.map (fun p=>sg al p.1)++fC us/\H.get id=some o):=by
  intro id o h;unfold GH.get at h;split at h
  .rename_i s' o' heq
   cases h;rcases cases2 id s' o heq with ⟨k,o',h1,h2,h3,h4,_,h6⟩ |⟨h1,h2,_⟩
   .obtain ⟨l,h7,h8⟩:=hl.dH.obj k o' h1
    exact .inl ⟨k,o',l,h1,h2,h3,h4,h6,h7,by rw [h4];exact hρ k l h2 h7,h8⟩
   grind
  .cases h
 have ownC:∀ b,bk (vQ it.n0 it.n2 H.n Γ Γ1) (it.oZ (sg al) us H y) I1 b->bk Γ1 (it.T2.H y) I1 b\/(∃ id o l,id∉it.os.map (fun p=>sg al p.1)++fC us/\H.get id=some o/\o.cY=true/\Γ id=some l/\At I l o b):=by
  rintro b ⟨id,o,l,hg,hm,hl',hat⟩;rcases getC id o hg with ⟨k,o',l',h1,h2,h3,h4,h5,h6,h7,h8⟩ |⟨h1,h2⟩
  .cases hl'.symm.trans h7
   subst h5;rw [qf] at hm;exact .inl ⟨k,o',l,h1,hm,h6,hat.imp (fun h=>h) lq.1⟩
  .obtain ⟨l0,h3,_⟩:=hs.obj id o h2
   grind
 have apartB:∀ b,(∃ id o l,id∉it.os.map (fun p=>sg al p.1)++fC us/\H.get id=some o/\o.cY=true/\Γ id=some l/\At I l o b)->¬ bk Γ1 (it.T2.H y) I1 b:=by
  rintro b ⟨id,o,l,h1,h2,h3,h4,h5⟩ ho;obtain ⟨h6,h7⟩:=frame id o l b h1 h2 h3 h4 h5;exact h7 (hl.own b h6 ho)
 have hstC:∀ id s',(it.oZ (sg al) us H y).aH id=some s'->s'=H.ck\/(id∉it.os.map (fun p=>sg al p.1)++fC us/\H.aH id=some s'):=by
  intro id s' h;unfold GH.aH at h;split at h
  .grind
  .cases h
 refine ⟨⟨?_,?_,?_,?_,hl.dH.fresh,hl.dH.pu,hl.dH.ro,?_,?_,?_,hl.dH.FT⟩,⟨hG,?_,hl.n,hl.p,?_,?_,?_,?_,?_,?_⟩,hρ⟩
 .intro id o hg
  rcases getC id o hg with ⟨k,o',l',h1,h2,h3,h4,h5,h6,h7,h8⟩ |⟨h1,h2⟩
  .exact ⟨l',h7,by rw [h5];exact O1 hρ h3 h8⟩
  .obtain ⟨l,h3,_⟩:=hs.obj id o h2
   exact ⟨l,hG _ _ h3,hs.dF kk h2 h3 fun hm b hat=>frameI id o l h1 h2 hm h3 b hat⟩
 .intro i j oi oj li lj b g1 g2 m1 m2 q1 q2 t1 t2
  rcases getC i oi g1 with ⟨k,o',l',h1,h2,h3,h4,h5,h6,h7,h8⟩ |⟨h1,h2⟩<;>rcases getC j oj g2 with ⟨k',o2,l2,f1,f2,f3,f4,f5,f6,f7,f8⟩ |⟨f1,f2⟩
  .cases q1.symm.trans h7
   cases q2.symm.trans f7;subst h5 f5;rw [qf] at m1 m2;have:=hl.dH.inj k k' o' o2 li lj b h1 f1 m1 m2 h6 f6 (t1.imp (fun h=>h) lq.1) (t2.imp (fun h=>h) lq.1)
   grind
  .cases q1.symm.trans h7
   subst h5;rw [qf] at m1;obtain ⟨l0,h9,_⟩:=hs.obj j oj f2;cases q2.symm.trans (hG _ _ h9);exact absurd ⟨k,o',li,h1,m1,h6,t1.imp (fun h=>h) lq.1⟩ (apartB b ⟨j,oj,lj,f1,f2,m2,h9,frameA j oj lj f1 f2 m2 h9 b t2⟩)
  .cases q2.symm.trans f7
   subst f5;rw [qf] at m2;obtain ⟨l0,h9,_⟩:=hs.obj i oi h2;cases q1.symm.trans (hG _ _ h9);exact absurd ⟨k',o2,lj,f1,m2,f6,t2.imp (fun h=>h) lq.1⟩ (apartB b ⟨i,oi,li,h1,h2,m1,h9,frameA i oi li h1 h2 m1 h9 b t1⟩)
  .obtain ⟨l0,h9,_⟩:=hs.obj i oi h2
   cases q1.symm.trans (hG _ _ h9);obtain ⟨l1,f9,_⟩:=hs.obj j oj f2;cases q2.symm.trans (hG _ _ f9);exact hs.inj i j oi oj li lj b h2 f2 m1 m2 h9 f9 (frameA i oi li h1 h2 m1 h9 b t1) (frameA j oj lj f1 f2 m2 f9 b t2)
 .intro b hb hpu
  rcases ownC b hb with h |h
  .exact hl.dH.sep b h hpu
  .obtain ⟨id,o,l,h1,h2,h3,h4,h5⟩:=h
   obtain ⟨h6,h7⟩:=frame id o l b h1 h2 h3 h4 h5;rcases hl.pn b h6 hpu with h8 |h8
   .exact hs.sep b ⟨id,o,l,h2,h3,h4,h5⟩ h8
   grind
 .intro id l h
  show id<H.n+(it.n2 - it.n0)
  unfold vQ at h
  grind
 .show bI<=H.n+(it.n2 - it.n0)
  have:=hs.gn;omega
 .intro g hg
  obtain ⟨l,h1,h2⟩:=hs.cq g hg
  grind
 .intro id s' h
  show s'<H.ck+1
  rcases hstC id s' h with h1 |⟨_,h1⟩
  .omega
  .have:=hs.st id s' h1;omega
 .show H.n<=H.n+(it.n2 - it.n0)
  omega
 .intro b hb ho
  exact hl.cE b hb fun h=>ho (hO b h)
 .intro b hb ho
  rcases ownC b ho with h |⟨id,o,l,h1,h2,h3,h4,h5⟩
  .exact hO b (hl.own b hb h)
  .exact ⟨id,o,l,h2,h3,h4,h5⟩
 .intro b hb hp
  rcases hl.pn b hb hp with h |h
  .exact .inl h
  grind
 .show H.ck<=H.ck+1
  omega
 .intro id _
  cases hq:(it.oZ (sg al) us H y).aH id with
  |none=>grind
  |some s'=>
   grind
 .intro id l b x s' h1 h2 h3 h4
  rcases hstC id s' h2 with h5 |⟨h5,_⟩
  .have:=hs.st id s' h1;omega
  .exact hs.ey kk h1 h3 h4 fun o hg hm=>frameI id o l h5 hg hm h3 b (.inl ⟨x,h4⟩)
theorem oQ {σ:Nat->Nat} {kn:Nat->Bool} {n:Nat}:∀ {l:List (Nat×OT)} {us us':Us} {x:bc l},gy σ kn H n l us=some (x,us')->∀ p∈l,∃ o,H.get (σ p.1)=some o:=by
 intro l
 induction l with
 |nil=>grind
 |cons q r ih=>
  intro us us' x h p hp;obtain ⟨k,t⟩:=q;simp only [gy] at h
  grind
theorem cC.eR {it:du} {n:Nat} (hT:it.T.ok P hint) (hok:∀ m,m+it.D=n->cC P hint sh it m) {args:List TV} {args':List Value} {K:TV->GH->Option Z} (h:it.eR Z n args H K=some r) (hs:au P hint sh Γ Pu H I) (ha:br Γ Pu I args args'):
  gb P hint sh K r Γ Pu H I (cX P hint (ev P hint (cj hint) n) it.f args' I):=by
 unfold du.eR at h;replace h:=ad h;obtain ⟨hb,h⟩:=h;have hle:=aF hb;split at h
 .rename_i x H1 hd
  replace h:=ad h;obtain ⟨hfx,h⟩:=h;split at h
  .rename_i s us hg
   replace h:=ad h;obtain ⟨hwf,h⟩:=h;cases hF:it.F (n - it.D) (x,s) with
   |none=>grind
   |some y=>
    rw [hF] at h;simp only [zaa] at h;have hargs:args'=args'.take it.ar.length++args'.drop it.ar.length:=(List.take_append_drop _ _).symm;obtain ⟨Pu1,s1,e1,d1⟩:=ji hs hd (ha.drop it.ar.length);have hw:=du.TJ hwf;obtain ⟨Γ',s2,low,own⟩:=du.enter it hT s1 hg hw;have k1:=e1.cy hs;have gar:br Γ' Pu1 I it.ar (args'.take it.ar.length):=Qc low hfx ((ha.take it.ar.length).mono k1);have hrun:=(hok (n - it.D) (by omega)).run hF s2 gar d1;rw [show n - it.D+it.D=n by omega,←hargs] at hrun;rw [PR.TO] at h;cases hel:PR.el it.pt y with
    |inl z=>
     rw [hel] at hrun h;obtain ⟨Γ2,Pu2,I2,v,r1,r2,r3,r4⟩:=hrun;cases hro:it.ro with
     |false=>
      rw [hro] at h;obtain ⟨s3,e3,n3⟩:=du.leave it s1 hw low s2 (oQ hg) own (r3 hro);exact .inl ⟨_,_,_,_,v,I2,h,r1,r2 _ _ (.inr n3),s3,Ex.trans hs s1 e1 e3⟩
     |true=>
      rw [hro] at h;have r5:=r4 hro;obtain ⟨s3,e3⟩:=s1.outside r5.n r5.cE r5.fresh r5.pu r5.pn;have hP:(fun b=>Pu1 b\/Pu2 b)=Pu2:=by funext b;exact propext ⟨fun h=>h.elim (r5.p b) id,.inr⟩
      exact .inl ⟨_,_,_,_,v,I2,h,r1,by rw [hP];exact r2 _ _ (.inl hro),s3,Ex.trans hs s1 e1 e3⟩
    |inr p=>
     rw [hel] at hrun h;obtain ⟨Γ2,Pu2,I2,r1,r3⟩:=hrun;obtain ⟨s3,e3,_⟩:=du.leave it.gone s1 hw.gone low s2 (oQ hg) own r3;exact .inr ⟨_,_,_,_,I2,h,r1,s3,Ex.trans hs s1 e1 e3⟩
  .cases h
 .cases h
def GC (f:FuncId):List du->Option du
 | []=>none
 |it::r=>bif Nat.beq it.f f then some it else GC f r
theorem Kr {f:FuncId}:∀ {l:List du} {it:du},GC f l=some it->it∈l/\it.f=f:=by
 intro l
 induction l with
 |nil=>intro it h;cases h
 |cons a r ih=>
  intro it h;unfold GC at h;cases hb:Nat.beq a.f f with
  |true=>simp_all
  |false=>grind
noncomputable def dq.QK (k:dq) (ps:List du) (Z:Type):rW Z where
 call:=fun f=>match GC f ps with
  |some it=>some (it.eR Z)
  |none=>(k.hk Z).call f
 loop:=(k.hk Z).loop
structure eb (P:Program) (hint:Hint) (sh:bU) (ps:List du):Prop where
 ps:∀ it∈ps,(∀ n,cC P hint sh it n)/\it.T.ok P hint
theorem eb.nil:eb P hint sh []:=⟨fun it h=>by cases h⟩
theorem eb.fn {ps:List du} (h:eb P hint sh ps) {it:du} (hi:∀ n,cC P hint sh it n) (hT:it.T.ok P hint):eb P hint sh (it::ps):=
 ⟨fun a ha=>by
  rcases List.mem_cons.1 ha with rfl |ha
  .grind
  .exact h.ps a ha⟩
theorem ab.G5 {k:dq} (h:ab P hint sh k) {ps:List du} (hp:eb P hint sh ps) (n:Nat):rC P hint sh (k.QK ps Z) n where
 call:=fun {f g args args' H K r Γ Pu I} hg hr hs ha=>by
  simp only [dq.QK] at hg;split at hg
  .rename_i it hit
   cases hg;obtain ⟨hm,rfl⟩:=Kr hit;exact cC.eR (hp.ps it hm).2 (fun m _=>(hp.ps it hm).1 m) hr hs ha
  .exact (h.eR n).call hg hr hs ha
 loop:=fun {bx fi ro ro' c g E E' H K r Γ Pu I n0 D} hg hr hs he hf hro hd hn=>(h.eR n).loop hg hr hs he hf hro hd hn
theorem cC.zero {it:du} (h:∀ n x,it.F n x=none) (n:Nat):cC P hint sh it n where
 run:=fun {x y Γ Pu I us vs} hF _ _ _=>by
  grind
theorem cC.GF {it:du} {D:Nat} (b:(Nat->aw it.pa×bc it.os->Option (PR it.pt (aw it.re×R2 it.ow (bc it.xY))))->Nat->aw it.pa×bc it.os->Option (PR it.pt (aw it.re×R2 it.ow (bc it.xY)))) (Fd:Nat->Nat->aw it.pa×bc it.os->Option (PR it.pt (aw it.re×R2 it.ow (bc it.xY))))
  (h0:∀ n x,Fd 0 n x=none) (hs:∀ d n x,Fd (d+1) n x=bif Nat.ble D n then b (Fd d) (n - D) x else none)
  (hb:∀ Fr,(∀ m,cC P hint sh { it with D:=0,F:=Fr } m)->∀ n,cC P hint sh { it with D:=D,F:=b Fr } n):∀ d n,cC P hint sh { it with D:=0,F:=Fd d } n:=by
 intro d
 induction d with
 |zero=>exact fun n=>cC.zero (it:={ it with D:=0,F:=Fd 0 }) h0 n
 |succ d ih=>
  intro n;refine ⟨fun {x y Γ Pu I us vs} hF hS hA hD=>?_⟩;have h2:Fd (d+1) n x=some y:=hF;rw [hs] at h2;cases hle:Nat.ble D n with
  |false=>grind
  |true=>
   rw [hle,zac] at h2;have hD2:n - D+D=n:=Nat.sub_add_cancel (Nat.le_of_ble_eq_true hle);have:=(hb (Fd d) ih (n - D)).run (x:=x) (y:=y) (Γ:=Γ) h2 hS hA hD;simp only [hD2] at this;exact HT.gS this
theorem cC.diag {it:du} (Fd:Nat->Nat->aw it.pa×bc it.os->Option (PR it.pt (aw it.re×R2 it.ow (bc it.xY)))) (h:∀ d n,cC P hint sh { it with D:=0,F:=Fd d } n) (n:Nat):cC P hint sh { it with D:=0,F:=fun n x=>Fd n n x } n:=
 ⟨fun {x y Γ Pu I us vs} hF hS hA hD=>HT.gS ((h n n).run (x:=x) (y:=y) (Γ:=Γ) hF hS hA hD)⟩
end
end Go.Gv
