/- Functions that are handed pointers: the objects behind them are handed over, and handed back; what is to be shown of each, and that it may be used. -/
import Derived.Test.YtdelfjdjenlaiaaGreatDoorGvLoop
set_option linter.unusedSimpArgs false
set_option linter.unusedVariables false
namespace Go.Gv
open Go Go.Iv
noncomputable section
def Wp:List (Nat×Nat)->Nat->Nat
 | [],k=>k
 |(a,b)::r,k=>bif Nat.beq a k then b else Wp r k
def sg (al:List (Nat×Nat)) (k:Nat):Nat:=bif Nat.blt k bU then k else Wp al k
def Qv (σ:Nat->Nat):TV->TV
 | .ptr a o=> .ptr (σ a) o
 | .all a=> .all (σ a)
 | .mp a=> .mp (σ a)
 |v=>v
def Yn (kn:Nat->Bool):TV->Bool
 | .ptr a _=>kn a
 | .all a=>kn a
 | .mp a=>kn a
 | .raw _ | .undef=>true
 |_=>false
def T1.Ij (σ:Nat->Nat) (kn:Nat->Bool) (H:GH) (n:Nat) (us:Us) (t:T1) (v:TV):Option (t.ty×Us):=
 match t with
 | .fix t=>bif Yn kn t &&qp (Qv σ t) v then some ((),us) else none
 |t=>t.get H 0 n us v
def KQ (σ:Nat->Nat) (kn:Nat->Bool) (H:GH) (n:Nat):(l:List T1)->Us->List TV->Option (UX l×Us)
 | [],us,[]=>some ((),us)
 |t::r,us,v::vs=>match t.Ij σ kn H n us v with
  |some (x,us)=>match KQ σ kn H n r us vs with
   |some (y,us)=>some ((x,y),us)
   |none=>none
  |none=>none
 |_,_,_=>none
def OT.Ij (σ:Nat->Nat) (kn:Nat->Bool) (H:GH) (n:Nat) (us:Us) (t:OT) (o:bL):Option (t.ty×Us):=
 match t with
 | .cells et l w=>match o with
  | .cells et' cs w'=>bif Nat.beq et et' &&(bif w then w' else !w') then KQ σ kn H n l us cs else none
  |_=>none
 |t=>t.get H 0 n us o
def gO (σ:Nat->Nat) (kn:Nat->Bool) (H:GH) (n:Nat):(l:List (Nat×OT))->Us->Option (aF l×Us)
 | [],us=>some ((),us)
 |(k,t)::r,us=>bif kn k then match H.get (σ k) with
  |some o=>match t.Ij σ kn H n us o with
   |some (x,us)=>match gO σ kn H n r us with
    |some (y,us)=>some ((x,y),us)
    |none=>none
   |none=>none
  |none=>none
  else none
def Q0 (a b:Nat) (al:List (Nat×Nat)):List (Nat×Nat):=bif Nat.ble bU a && !(al.any fun p=>Nat.beq p.1 a) then al++ [(a,b)] else al
def UT:TV->TV->List (Nat×Nat)->List (Nat×Nat)
 | .ptr a _,.ptr b _,al=>Q0 a b al
 | .all a,.all b,al=>Q0 a b al
 | .mp a,.mp b,al=>Q0 a b al
 |_,_,al=>al
def OJ:List T1->List TV->List (Nat×Nat)->List (Nat×Nat)
 | .fix t::r,v::vs,al=>OJ r vs (UT t v al)
 |_::r,_::vs,al=>OJ r vs al
 |_,_,al=>al
def LD (H:GH):List (Nat×OT)->List (Nat×Nat)->List (Nat×Nat)
 | [],al=>al
 |(k,.cells _ l _)::r,al=>match H.get (Wp al k) with
  |some (.cells _ cs _)=>LD H r (OJ l cs al)
  |_=>LD H r al
 |_::r,al=>LD H r al
def Qc:List TV->List TV->List (Nat×Nat)->List (Nat×Nat)
 |t::r,v::vs,al=>Qc r vs (UT t v al)
 |_,_,al=>al
abbrev PR:Option TypeId->Type->Type
 |none,A=>A
 |some _,A=>A⊕Int
def PR.el {A:Type}:(p:Option TypeId)->PR p A->A⊕(TypeId×Int)
 |none,y=> .inl y
 |some _,.inl y=> .inl y
 |some t,.inr e=> .inr (t,e)
def PR.cs {A B:Type}:(p:Option TypeId)->PR p A->(A->B)->(TypeId->Int->B)->B
 |none,y,f,_=>f y
 |some t,y,f,g=>match y with
  | .inl y=>f y
  | .inr e=>g t e
def PR.mk {A:Type} (c:Bool):(p:Option TypeId)->TV->Option A->Option (PR p A)
 |none,_,o=>o
 |some t,v,o=>Om v (fun w=>match K5 t w with
  |some e=>bif c then some (.inr e) else none
  |none=>none) (match o with
  |some a=>some (.inl a)
  |none=>none)
structure bm where
 f:FuncId
 ar:List TV
 pa:List (Bool×Sh)
 re:List (Bool×Sh)
 n0:Nat
 os:List (Nat×OT)
 n:Nat
 DC:List (Nat×OT)
 n2:Nat
 ro:Bool
 pt:Option TypeId
 D:Nat
 F:Nat->ak pa×aF os->Option (PR pt (ak re×aF DC))
def bm.T (it:bm):Tm:=⟨[],it.os,it.n0,it.n,0⟩
def bm.T2 (it:bm):Tm:=⟨[],it.DC,it.n0,it.n2,0⟩
def bm.gone (it:bm):bm:=⟨it.f,it.ar,it.pa,[],it.n0,it.os,it.n,[],it.n0,false,none,it.D,fun _ _=>none⟩
def bm.kn (it:bm) (k:Nat):Bool:=Nat.blt k bU ||it.os.any fun p=>Nat.beq p.1 k
def Rt (kn:Nat->Bool) (n0 n2:Nat):TV->Bool
 | .int _ _ | .byte _ | .bool _ | .str _ | .aC _ _ _ _ | .raw _ | .undef=>true
 | .all c=>kn c ||(Nat.ble n0 c &&Nat.blt c n2)
 | .ptr c _=>kn c
 | .mp c=>kn c
 |_=>false
def vw (kn:Nat->Bool) (n0 n2:Nat):bL->Bool
 | .cells _ cs _=>cs.all (Rt kn n0 n2)
 | .arr .. | .iter .. | .map .. =>true
 | .nest _ _ _ _ _ _ _ ho=>ho.isNone
 | .loop .. | .gT .. =>false
def Hf (Z:Nat->Nat):bL->bL
 | .cells et cs w=> .cells et (cs.map (Qv Z)) w
 |o=>o
def JX (kn:Nat->Bool) (n0 n2 ck:Nat) (Z:Nat->Nat) (Hc:GH):List Nat->Tr (Nat×bL)->Tr (Nat×bL)
 | [],t=>t
 |k::r,t=>match Hc.get k with
  |some o=>bif (kn k ||(Nat.ble n0 k &&Nat.blt k n2)) &&vw kn n0 n2 o then Tr.qU (some (ck,Hf Z o)) (Nat.succ (Z k)) (JX kn n0 n2 ck Z Hc r t) (Z k) else JX kn n0 n2 ck Z Hc r t
  |none=>JX kn n0 n2 ck Z Hc r t
def upto (a:Nat):Nat->List Nat
 |0=> []
 |k+1=>a::upto (a+1) k
def fE:Us->List Nat
 | []=> []
 |(_,some (id,_),_)::r=>id::fE r
 |(_,none,_)::r=>fE r
def Ve (σ:Nat->Nat) (n0 m k:Nat):Nat:=bif Nat.blt k n0 then σ k else m+(k - n0)
def bm.qe (it:bm) (σ:Nat->Nat) (us:Us) (H:GH) (y:aF it.DC):GH:=
 ⟨JX it.kn it.n0 it.n2 H.ck (Ve σ it.n0 H.n) (it.T2.H ((),y)) (it.DC.map (·.1)++upto it.n0 (it.n2 - it.n0)) (eH (it.os.map (fun p=>σ p.1)++fE us) H).t,H.n+(it.n2 - it.n0),Nat.succ H.ck⟩
def wm (σ:Nat->Nat) (os:List (Nat×OT)):Us->Bool
 | []=>true
 |(_,some (id,_),_)::r=>os.all (fun p=> !Nat.beq (σ p.1) id) &&wm σ os r
 |(_,none,_)::r=>wm σ os r
def KY (σ:Nat->Nat):List (Nat×OT)->Bool
 | []=>true
 |p::r=>r.all (fun q=> !Nat.beq (σ p.1) (σ q.1)) &&KY σ r
def VD (σ:Nat->Nat) (kn:Nat->Bool):List TV->List TV->Bool
 | [],[]=>true
 |t::r,v::vs=>Yn kn t &&qp (Qv σ t) v &&VD σ kn r vs
 |_,_=>false
def bm.wf (it:bm) (σ:Nat->Nat) (us:Us):Bool:=
 it.os.all (fun p=>Nat.ble bU p.1 &&Nat.blt p.1 it.n0) &&KY σ it.os &&wm σ it.os us &&us.all (fun p=>Nat.ble it.n0 p.1) &&Nat.ble it.n0 it.n &&Nat.ble bU it.n0 &&Nat.ble it.n0 it.n2
def bm.aK (β:Type) (it:bm):Nat->List TV->GH->(TV->GH->Option β)->Option β:=fun N args H K=>
 bif Nat.ble it.D N then
  match rB it.pa (args.drop it.ar.length) H with
  |some (x,H)=>
   let al:=LD H it.os (Qc it.ar args [])
   bif VD (sg al) it.kn it.ar (args.take it.ar.length) then
    match gO (sg al) it.kn H it.n it.os [] with
    |some (s,us)=>bif it.wf (sg al) us then
      (it.F (N - it.D) (x,s)).bind fun y=>PR.cs it.pt y (fun y=>K (jS (fH it.re y.1)) (bif it.ro then H else it.qe (sg al) us H y.2)) fun t e=>K (.H5 (PA t e)) (it.gone.qe (sg al) us H ())
     else none
    |none=>none
   else none
  |none=>none
 else none
def L1 (l:List (Bool×Sh)) (v:TV) (H:GH):Option (ak l×GH):=
 match v with
 | .jg vs=>bif Nat.beq l.length 1 then none else rB l vs H
 |v=>rB l [v] H
def UZ:bL->Bool
 | .nest .. | .gT .. =>false
 |_=>true
def KX (H1:GH):Ae->Bool
 | []=>true
 |(id,o)::r=>UZ o &&(match H1.t.lA id with
  |some (0,o1)=>o1.dh
  |_=>false) &&KX H1 r
def LK (it:bm) (s:aF it.os) (v:TV) (H:GH):Option (ak it.re×aF it.DC):=
 match L1 it.re v H with
 |some (y,H)=>bif !it.ro ||KX H ((dX it.os s).1++(dX it.os s).2) then match it.T2.take ⟨.e,.e⟩ H with
  |some s=>some (y,s.2)
  |none=>none
  else none
 |none=>none
def Yg (it:bm) (s:aF it.os) (v:TV) (H:GH):Option (PR it.pt (ak it.re×aF it.DC)):=PR.mk (Nat.ble it.n0 H.n &&Nat.ble bU it.n0) it.pt v (LK it s v H)
end
section
variable {P:Program} {hint:Hint} {sh:cA} {O:Nat->Prop} {Γ Γ1 Γ':bc} {Pu Pu1:Nat->Prop} {H H1:GH} {I I1:IH} {β:Type} {r:β}
def Mh (σ:Nat->Nat) (kn:Nat->Bool) (Γ Γ':bc):Prop:=∀ k,kn k=true->Γ' k=Γ (σ k)
theorem Sg {σ:Nat->Nat} {kn:Nat->Bool} (hc:Mh σ kn Γ Γ') {t:TV} {v:Value} (hi:Yn kn t=true) (h:GR Γ Pu I (Qv σ t) v):GR Γ' Pu I t v:=by
 cases t with
 |ptr a o=>cases h with |ptr x y=>exact .ptr ((hc a hi).trans x) y
 |all a=>cases h with |all x y=>exact .all ((hc a hi).trans x) y
 |mp a=>cases h with |mp x y=>exact .mp ((hc a hi).trans x) y
 |raw w=>cases h;exact .raw _
 |undef=>exact .undef _
 |_=>cases hi
structure lu (P:Program) (hint:Hint) (σ:Nat->Nat) (kn:Nat->Bool) (n:Nat) (Γ:bc) (Pu:Nat->Prop) (I:IH) (H:GH) (us us':Us) (q:bc->Prop) (N:Ae):Prop where
 sub:∀ p,p∈us->p∈us'
 ok:ik 0 n us'
 r9:∀ Γ',Mh σ kn Γ Γ'->QI 0 us' Γ Γ'->q Γ'/\jo P hint Γ Γ' Pu I us' H N
theorem tN.s {σ:Nat->Nat} {kn:Nat->Bool} {n:Nat} {us us':Us} {q:bc->Prop} {N:Ae} (h:tN P hint 0 n Γ Pu I H us us' q N):lu P hint σ kn n Γ Pu I H us us' q N:=
 ⟨h.sub,h.ok,fun Γ' _ hc=>h.r9 Γ' hc⟩
theorem lu.trans {σ:Nat->Nat} {kn:Nat->Bool} {n:Nat} {us us1 us2:Us} {p q:bc->Prop} {A B:Ae} (h:lu P hint σ kn n Γ Pu I H us us1 p A) (k:lu P hint σ kn n Γ Pu I H us1 us2 q B):lu P hint σ kn n Γ Pu I H us us2 (fun Γ'=>p Γ'/\q Γ') (A++B):=
 ⟨fun x hx=>k.sub x (h.sub x hx),k.ok,fun Γ' hl hc=>by
  obtain ⟨a,b⟩:=h.r9 Γ' hl (hc.sub k.sub);obtain ⟨c,d⟩:=k.r9 Γ' hl hc;refine ⟨⟨a,c⟩,jo.app (fun c o hm=>?_) d⟩;obtain ⟨l,s,z,x1,x2,x3,x4,x5⟩:=b c o hm;exact ⟨l,s,z,x1,x2,x3,k.sub _ x4,x5⟩⟩
theorem lu.imp {σ:Nat->Nat} {kn:Nat->Bool} {n:Nat} {us us1:Us} {p q:bc->Prop} {A:Ae} (h:lu P hint σ kn n Γ Pu I H us us1 p A) (hi:∀ Γ',p Γ'->q Γ'):lu P hint σ kn n Γ Pu I H us us1 q A:=
 ⟨h.sub,h.ok,fun Γ' hl hc=>⟨hi Γ' (h.r9 Γ' hl hc).1,(h.r9 Γ' hl hc).2⟩⟩
theorem lu.none {σ:Nat->Nat} {kn:Nat->Bool} {n:Nat} {us:Us} {p:bc->Prop} (hu:ik 0 n us) (hp:∀ Γ',p Γ'):lu P hint σ kn n Γ Pu I H us us p []:=
 ⟨fun _ h=>h,hu,fun Γ' _ _=>⟨hp Γ',jo.nil⟩⟩
theorem T1.Da {σ:Nat->Nat} {kn:Nat->Bool} (hs:aw P hint sh Γ Pu H I) {n:Nat} {us us':Us} (hu:ik 0 n us) {t:T1} {x:t.ty} {v:TV} {v':Value} (h:t.Ij σ kn H n us v=some (x,us')) (hr:GR Γ Pu I v v'):
  lu P hint σ kn n Γ Pu I H us us' (fun Γ'=>GR Γ' Pu I (t.put x).1 v') (t.put x).2:=by
 have other:t.get H 0 n us v=some (x,us')->lu P hint σ kn n Γ Pu I H us us' (fun Γ'=>GR Γ' Pu I (t.put x).1 v') (t.put x).2:=fun h=>(T1.gX hs hu h hr).s
 cases t with
 |fix t=>
  simp only [T1.Ij] at h;replace h:=ae h;obtain ⟨hb,h⟩:=h;replace hb:=af hb;cases h;exact ⟨fun _ h=>h,hu,fun Γ' hl _=>⟨Sg hl hb.1 (oa hb.2 hr),jo.nil⟩⟩
 |_=>exact other h
theorem Ov {σ:Nat->Nat} {kn:Nat->Bool} (hs:aw P hint sh Γ Pu H I) {n:Nat}:∀ {l:List T1} {us us':Us} {x:UX l} {vs:List TV} {vs':List Value},ik 0 n us->KQ σ kn H n l us vs=some (x,us')->bK Γ Pu I vs vs'->
  lu P hint σ kn n Γ Pu I H us us' (fun Γ'=>bK Γ' Pu I (yX l x).1 vs') (yX l x).2:=by
 intro l
 induction l with
 |nil=>
  intro us us' x vs vs' hu h hr;cases vs with
  |nil=>cases h;cases hr;exact lu.none hu fun _=> .nil
  |cons=>cases h
 |cons t r ih=>
  intro us us' x vs vs' hu h hr;cases hr with
  |nil=>cases h
  |cons a b=>
   simp only [KQ] at h;split at h
   ·rename_i y us1 h1
    split at h
    ·rename_i z us2 h2
     cases h;have g1:=T1.Da hs hu h1 a;have g2:=ih g1.ok h2 b;exact (g1.trans g2).imp fun Γ' hh=> .cons hh.1 hh.2
    ·cases h
   ·cases h
theorem OT.Da {σ:Nat->Nat} {kn:Nat->Bool} (hs:aw P hint sh Γ Pu H I) {n:Nat} {us us':Us} (hu:ik 0 n us) {t:OT} {x:t.ty} {o:bL} {l:Loc} (hok:OZ P hint t) (h:t.Ij σ kn H n us o=some (x,us')) (ho:OR P hint Γ Pu I l o):
  lu P hint σ kn n Γ Pu I H us us' (fun Γ'=>OR P hint Γ' Pu I l (t.put x).1) (t.put x).2/\(t.put x).1.dh=o.dh/\∀ b,(t.put x).1.has I l b->o.has I l b:=by
 have other:t.get H 0 n us o=some (x,us')->lu P hint σ kn n Γ Pu I H us us' (fun Γ'=>OR P hint Γ' Pu I l (t.put x).1) (t.put x).2/\(t.put x).1.dh=o.dh/\∀ b,(t.put x).1.has I l b->o.has I l b:=fun h=>by
  obtain ⟨a,b,c⟩:=OT.gX hs hu hok h ho;exact ⟨a.s,b,c⟩
 cases t with
 |cells et tl w=>
  cases o with
  |cells et' cs w'=>
   simp only [OT.Ij] at h;replace h:=ae h;obtain ⟨hb,h⟩:=h;replace hb:=af hb;have e1:=beq_true hb.1;have e2:=jl hb.2;subst e1 e2;obtain ⟨b,vs,fz,ex,sd,hp,hg,hr,hw,hpu⟩:=ho;exact ⟨(Ov hs hu h hr).imp fun Γ' hh=>⟨b,vs,fz,ex,sd,hp,hg,hh,hw,hpu⟩,rfl,fun _ h=>False.elim h⟩
  |_=>cases h
 |_=>exact other h
theorem Hh {σ:Nat->Nat} {kn:Nat->Bool} (hs:aw P hint sh Γ Pu H I) {n:Nat}:∀ {l:List (Nat×OT)} {us us':Us} {x:aF l},(∀ p∈l,OZ P hint p.2)->ik 0 n us->gO σ kn H n l us=some (x,us')->
  lu P hint σ kn n Γ Pu I H us us' (fun Γ'=>∀ k o,(k,o)∈(dX l x).1->kn k=true/\(∃ p∈l,p.1=k)/\∃ lo o',Γ (σ k)=some lo/\OR P hint Γ' Pu I lo o/\H.get (σ k)=some o'/\o.dh=o'.dh/\∀ b,o.has I lo b->o'.has I lo b) (dX l x).2:=by
 intro l
 induction l with
 |nil=>
  intro us us' x _ hu h;unfold gO at h;cases h;exact lu.none hu fun _ id o hm=>by cases hm
 |cons p r ih=>
  intro us us' x hok hu h;obtain ⟨k,t⟩:=p;simp only [gO] at h;replace h:=ae h;obtain ⟨hb,h⟩:=h;split at h
  ·rename_i o hg
   split at h
   ·rename_i y us1 h1
    split at h
    ·rename_i z us2 h2
     cases h;obtain ⟨lo,hlo,ho⟩:=hs.obj _ o hg;obtain ⟨g1,hm,hhas⟩:=OT.Da hs hu (hok _ List.mem_cons_self) h1 ho;have g2:=ih (fun p hp=>hok p (zak _ hp)) g1.ok h2;refine (g1.trans g2).imp fun Γ' hh id' o' hmem=>?_
     rcases List.mem_cons.1 hmem with hq |hmem
     ·cases hq
      exact ⟨hb,⟨_,List.mem_cons_self,rfl⟩,lo,o,hlo,hh.1,hg,hm,hhas⟩
     ·obtain ⟨a1,⟨q,hq1,hq2⟩,a3⟩:=hh.2 id' o' hmem
      exact ⟨a1,⟨q,zak _ hq1,hq2⟩,a3⟩
    ·cases h
   ·cases h
  ·cases h
noncomputable def uS (σ:Nat->Nat) (kn:Nat->Bool) (us:Us) (Γ:bc):bc:=fun k=>bif kn k then Γ (σ k) else
 match us.find? (fun p=>Nat.beq p.1 k) with
 |some (_,some (id,off,len),_)=>(Γ id).map (Loc.cut off len)
 |some (_,none,z)=>some ⟨none,0,z,0⟩
 |none=>none
theorem A2 {σ:Nat->Nat} {os:List (Nat×OT)}:∀ {us:Us},wm σ os us=true->∀ c id q z,(c,some (id,q),z)∈us->∀ p∈os,σ p.1≠id:=by
 intro us
 induction us with
 |nil=>intro _ c id w z h;cases h
 |cons q us ih=>
  intro h c id w z hm p hp;obtain ⟨c',s,z'⟩:=q;cases s with
  |some id'=>
   obtain ⟨id',w'⟩:=id';replace h:=af h;rcases List.mem_cons.1 hm with hq |hm
   ·cases hq
    have:=List.all_eq_true.1 h.1 p hp;intro e;rw [e,Nat.beq_refl] at this;cases this
   ·exact ih h.2 c id w z hm p hp
  |none=>
   rcases List.mem_cons.1 hm with hq |hm
   ·cases hq
   ·exact ih h c id w z hm p hp
theorem Pv {σ:Nat->Nat}:∀ {os:List (Nat×OT)},KY σ os=true->∀ p∈os,∀ q∈os,σ p.1=σ q.1->p=q:=by
 intro os
 induction os with
 |nil=>intro _ p hp;cases hp
 |cons a r ih=>
  intro h p hp q hq e;replace h:=af h;rcases List.mem_cons.1 hp with h1 |h1<;>rcases List.mem_cons.1 hq with h2 |h2
  ·rw [h1,h2]
  ·have:=List.all_eq_true.1 h.1 q h2
   rw [←h1,e,Nat.beq_refl] at this;cases this
  ·have:=List.all_eq_true.1 h.1 p h1
   rw [←h2,←e,Nat.beq_refl] at this;cases this
  ·exact ih h.2 p h1 q h2 e
theorem Ns {c id:Nat} {q:Nat×Nat} {z:Nat}:∀ {us:Us},(c,some (id,q),z)∈us->id∈fE us:=by
 intro us
 induction us with
 |nil=>intro h;cases h
 |cons p us ih=>
  intro h;obtain ⟨c',s,z'⟩:=p;cases s with
  |some a=>
   obtain ⟨id',w⟩:=a;unfold fE;rcases List.mem_cons.1 h with h |h
   ·cases h;exact List.mem_cons_self
   ·exact zak _ (ih h)
  |none=>
   unfold fE;rcases List.mem_cons.1 h with h |h
   ·cases h
   ·exact ih h
theorem Ur:∀ {us:Us},us.Pairwise (fun p q=>∀ a b,p.2.1=some a->q.2.1=some b->a.1≠b.1)->∀ {a b:Nat} {id z w:Nat} {q1 q2:Nat×Nat},(a,some (id,q1),z)∈us->(b,some (id,q2),w)∈us->a=b:=by
 intro us
 induction us with
 |nil=>intro _ a b id z w q1 q2 h;cases h
 |cons p us ih=>
  intro hpw a b id z w q1 q2 h1 h2;rw [List.pairwise_cons] at hpw;rcases List.mem_cons.1 h1 with h1 |h1<;>rcases List.mem_cons.1 h2 with h2 |h2
  ·rw [←h1] at h2;cases h2;rfl
  ·exact absurd rfl (hpw.1 _ h2 (id,q1) (id,q2) (by rw [←h1]) rfl)
  ·exact absurd rfl (hpw.1 _ h1 (id,q2) (id,q1) (by rw [←h2]) rfl)
  ·exact ih hpw.2 h1 h2
structure WQ (it:bm) (σ:Nat->Nat) (us:Us):Prop where
 os:∀ p∈it.os,bU<=p.1/\p.1<it.n0
 GJ:KY σ it.os=true
 apart:wm σ it.os us=true
 us:∀ p∈us,it.n0<=p.1
 n:it.n0<=it.n
 gl:bU<=it.n0
 n2:it.n0<=it.n2
theorem bm.XE {it:bm} {σ:Nat->Nat} {us:Us} (h:it.wf σ us=true):WQ it σ us:=by
 unfold bm.wf at h;replace h:=af h;obtain ⟨h,h7⟩:=h;replace h:=af h;obtain ⟨h,h6⟩:=h;replace h:=af h;obtain ⟨h,h5⟩:=h;replace h:=af h;obtain ⟨h,h4⟩:=h;replace h:=af h;obtain ⟨h,h3⟩:=h;replace h:=af h;obtain ⟨h1,h2⟩:=h;refine ⟨fun p hp=>?_,h2,h3,fun p hp=>aB (List.all_eq_true.1 h4 p hp),aB h5,aB h6,aB h7⟩;have:=af (List.all_eq_true.1 h1 p hp);exact ⟨aB this.1,cf this.2⟩
theorem WQ.gone {it:bm} {σ:Nat->Nat} {us:Us} (h:WQ it σ us):WQ it.gone σ us:=⟨h.os,h.GJ,h.apart,h.us,h.n,h.gl,zai _⟩
theorem bm.LL {it:bm} {k:Nat} (h:it.kn k=true):k<bU∨∃ p∈it.os,p.1=k:=by
 unfold bm.kn at h;rw [Bool.or_eq_true] at h;rcases h with h |h
 ·exact .inl (cf h)
 ·obtain ⟨p,hp,h⟩:=List.any_eq_true.1 h
  exact .inr ⟨p,hp,beq_true h⟩
theorem bm.W1 {it:bm} {k:Nat} (h:k<bU):it.kn k=true:=by
 unfold bm.kn;rw [show Nat.blt k bU=true from Nat.ble_eq_true_of_le h];rfl
theorem U9 {al:List (Nat×Nat)} {k:Nat} (h:k<bU):sg al k=k:=by
 unfold sg;rw [show Nat.blt k bU=true from Nat.ble_eq_true_of_le h];rfl
theorem bm.enter (it:bm) (hT:it.T.ok P hint) (hs:aw P hint sh Γ Pu H I) {al:List (Nat×Nat)} {s:aF it.os} {us:Us} (h:gO (sg al) it.kn H it.n it.os []=some (s,us)) (hw:WQ it (sg al) us):
  ∃ Γ',aw P hint sh Γ' Pu (it.T.H ((),s)) I/\Mh (sg al) it.kn Γ Γ'/\
   ∀ b,bx Γ' (it.T.H ((),s)) I b->∃ id o l,id∈it.os.map (fun p=>sg al p.1)++fE us/\H.get id=some o/\o.dh=true/\Γ id=some l/\At I l o b:=by
 have g:=Hh hs hT (show ik 0 it.n [] from ik.nil) h;have hu:=g.ok;have hlow:Mh (sg al) it.kn Γ (uS (sg al) it.kn us Γ):=fun k hk=>by unfold uS;rw [hk];rfl
 have hunk:∀ p∈us,it.kn p.1=false:=fun p hp=>by
  cases hk:it.kn p.1 with
  |false=>rfl
  |true=>
   have h1:=hw.us p hp;rcases bm.LL hk with h2 |⟨q,hq,h2⟩
   ·have:=hw.gl;omega
   ·have:=(hw.os q hq).2;omega
 have hcon:QI 0 us Γ (uS (sg al) it.kn us Γ):=⟨fun id l h0=>absurd h0 (Nat.not_lt_zero _),fun c s z hm=>by
  have h1:=hunk _ hm;have h2:=L2 hu hm;unfold uS;simp only at h1;rw [h1,h2];cases s with
  |none=>rfl
  |some q=>obtain ⟨id,off,len⟩:=q;rfl⟩
 obtain ⟨r2,q2⟩:=g.r9 _ hlow hcon
 have all:∀ id o,(it.T.H ((),s)).get id=some o->(it.kn id=true/\∃ lo o',Γ (sg al id)=some lo/\uS (sg al) it.kn us Γ id=some lo/\OR P hint (uS (sg al) it.kn us Γ) Pu I lo o/\H.get (sg al id)=some o'/\o.dh=o'.dh/\(∀ b,o.has I lo b->o'.has I lo b)/\∃ p∈it.os,p.1=id)∨
   (∃ l s z,uS (sg al) it.kn us Γ id=some l/\OR P hint (uS (sg al) it.kn us Γ) Pu I l o/\o.dh=true/\(id,s,z)∈us/\(match s with
    |some (id',_)=>∃ o',H.get id'=some o'/\o'.dh=true/\∀ l0 b,Γ id'=some l0->o.has I l b->o'.has I l0 b
    |none=>l.pos=none)):=by
  intro id o hg;unfold GH.get at hg;split at hg
  ·rename_i s' o' heq
   cases hg;obtain ⟨_,hm⟩:=iA heq;rcases List.mem_append.1 hm with hm |hm
   ·cases hm
   ·rcases List.mem_append.1 hm with hm |hm
    ·obtain ⟨a1,a2,lo,o',b1,b2,b3,b4,b5⟩:=r2 id o hm
     exact .inl ⟨a1,lo,o',b1,(hlow id a1).trans b1,b2,b3,b4,b5,a2⟩
    ·exact .inr (q2 id o hm)
  ·cases hg
 have src:∀ id o l b,(it.T.H ((),s)).get id=some o->o.dh=true->uS (sg al) it.kn us Γ id=some l->At I l o b->∃ id0 o0 l0,H.get id0=some o0/\o0.dh=true/\Γ id0=some l0/\At I l0 o0 b/\((id0=sg al id/\∃ p∈it.os,p.1=id)∨∃ q z,(id,some (id0,q),z)∈us):=by
  intro id o l b hg hm hl hat;rcases all id o hg with ⟨a1,lo,o',b1,b2,_,b3,b4,b6,b5⟩ |⟨l',s,z,b1,_,b2,b3,b4⟩
  ·cases hl.symm.trans b2
   exact ⟨sg al id,o',_,b3,b4▸hm,b1,hat.imp (fun h=>h) (b6 b),.inl ⟨rfl,b5⟩⟩
  ·cases hl.symm.trans b1
   cases s with
   |none=>
    simp only at b4
    exfalso
    rcases hat with ⟨y,hp⟩ |hh
    ·rw [b4] at hp;cases hp
    ·cases o with
     |nest=>obtain ⟨i,_,_,b0,o0,_,_,_,_,_,hp',_⟩:=hh;rw [b4] at hp';cases hp'
     |gT=>obtain ⟨i,x,b0,o,_,_,_,_,_,hp',_⟩:=hh;rw [b4] at hp';cases hp'
     |_=>cases hh
   |some q=>
    obtain ⟨id',off,len⟩:=q;obtain ⟨o',c1,c2,c3⟩:=b4;have:=hcon.us _ _ _ b3;simp only at this;have h4:=this.symm.trans hl;cases hg0:Γ id' with
    |none=>rw [hg0] at h4;cases h4
    |some l0=>
     rw [hg0] at h4;cases h4;refine ⟨id',o',l0,c1,c2,hg0,?_,.inr ⟨_,z,b3⟩⟩;rcases hat with ⟨y,hp⟩ |hh
     ·simp only [Loc.cut,Option.map_eq_some_iff] at hp
      obtain ⟨p,hp1,hp2⟩:=hp;cases hp2;exact .inl ⟨p.2,hp1⟩
     ·exact .inr (c3 l0 b hg0 hh)
 have own1:∀ b,bx (uS (sg al) it.kn us Γ) (it.T.H ((),s)) I b->∃ id o l,id∈it.os.map (fun p=>sg al p.1)++fE us/\H.get id=some o/\o.dh=true/\Γ id=some l/\At I l o b:=by
  rintro b ⟨id,o,l,hg,hm,hl,hp⟩;obtain ⟨j1,p1,m1,c1,c2,c3,c5,c6⟩:=src id o l b hg hm hl hp;refine ⟨j1,p1,m1,?_,c1,c2,c3,c5⟩;rcases c6 with ⟨rfl,p,hp1,hp2⟩ |⟨q,z,hm⟩
  ·exact List.mem_append_left _ (List.mem_map.2 ⟨p,hp1,by rw [hp2]⟩)
  ·exact List.mem_append_right _ (Ns hm)
 refine ⟨uS (sg al) it.kn us Γ,⟨?_,?_,?_,?_,hs.fresh,hs.pu,hs.ro,Nat.le_trans hw.gl hw.n,?_,?_,hs.HX⟩,hlow,own1⟩
 ·intro id o hg
  rcases all id o hg with ⟨_,lo,_,_,b2,b3,_⟩ |⟨l,_,_,b1,b2,_⟩
  ·exact ⟨lo,b2,b3⟩
  ·exact ⟨l,b1,b2⟩
 ·intro i1 i2 o1 o2 l1 l2 b hg1 hg2 hm1 hm2 hl1 hl2 hp1 hp2
  obtain ⟨j1,p1,m1,c1,c2,c3,c5,c4⟩:=src i1 o1 l1 b hg1 hm1 hl1 hp1;obtain ⟨j2,p2,m2,d1,d2,d3,d5,d4⟩:=src i2 o2 l2 b hg2 hm2 hl2 hp2;have hj:=hs.inj j1 j2 p1 p2 m1 m2 b c1 d1 c2 d2 c3 d3 c5 d5;rcases c4 with ⟨e1,p,e2,e3⟩ |⟨q1,z1,e1⟩<;>rcases d4 with ⟨f1,q,f2,f3⟩ |⟨q2,z2,f1⟩
  ·have:=Pv hw.GJ p e2 q f2 (by rw [e3,f3,←e1,←f1];exact hj)
   rw [←e3,←f3,this]
  ·exact absurd (show sg al p.1=j2 by rw [e3,←e1];exact hj) (A2 hw.apart _ _ _ _ f1 p e2)
  ·exact absurd (show sg al q.1=j1 by rw [f3,←f1];exact hj.symm) (A2 hw.apart _ _ _ _ e1 q f2)
  ·subst hj
   exact Ur hu.ii e1 f1
 ·intro b hb hpu
  obtain ⟨id,o,l,_,h1,h2,h3,h4⟩:=own1 b hb;exact hs.sep b ⟨id,o,l,h1,h2,h3,h4⟩ hpu
 ·intro id l hl
  show id<it.n
  unfold uS at hl;cases hk:it.kn id with
  |true=>
   rcases bm.LL hk with h2 |⟨q,hq,h2⟩
   ·exact Nat.lt_of_lt_of_le h2 (Nat.le_trans hw.gl hw.n)
   ·have:=(hw.os q hq).2;have:=hw.n;omega
  |false=>
   rw [hk] at hl;simp only [zab] at hl;cases hf:us.find? (fun p=>Nat.beq p.1 id) with
   |none=>rw [hf] at hl;cases hl
   |some p=>
    have h3:=List.find?_some hf;have h4:=List.mem_of_find?_eq_some hf;have:=(hu.c p h4).2;rw [←Nat.eq_of_beq_eq_true h3];exact this
 ·intro g' hg'
  obtain ⟨l,h3,h4⟩:=hs.cE g' hg';exact ⟨l,(hlow g' (bm.W1 hg')).trans (by rw [U9 hg'];exact h3),h4⟩
 ·intro id s hst
  unfold GH.aT at hst;split at hst
  ·rename_i s' o' heq
   cases hst;obtain ⟨h5,_⟩:=iA heq
   show s<0+1
   have:s=0:=h5;omega
  ·cases hst
theorem SP {σ:Nat->Nat} {kn:Nat->Bool} (hc:Mh σ kn Γ Γ'):∀ {ts vs:List TV} {ws:List Value},VD σ kn ts vs=true->bK Γ Pu I vs ws->bK Γ' Pu I ts ws:=by
 intro ts
 induction ts with
 |nil=>intro vs ws h hr;cases vs with
  |nil=>cases hr;exact .nil
  |cons=>cases h
 |cons t r ih=>
  intro vs ws h hr;cases hr with
  |nil=>cases h
  |cons a b=>
   replace h:=af h;obtain ⟨h,h3⟩:=h;replace h:=af h;exact .cons (Sg hc h.1 (oa h.2 a)) (ih h3 b)
end
end Go.Gv
/- Functions that are handed pointers: what is handed back; by its text; by depth; all that is known. -/
namespace Go.Gv
open Go Go.Iv
section
variable {P:Program} {hint:Hint} {sh:cA} {O:Nat->Prop} {Γ Γ1 Γ2 Γ':bc} {Pu Pu1 Pu2:Nat->Prop} {H H1 H2:GH} {I I1:IH} {β:Type} {r:β}
structure P7 (P:Program) (hint:Hint) (sh:cA) (n0:Nat) (Γ:bc) (Pu:Nat->Prop) (H:GH) (I:IH) (Γ1:bc) (Pu1:Nat->Prop) (H1:GH) (I1:IH):Prop where
 dI:aw P hint sh Γ1 Pu1 H1 I1
 low:∀ k l,k<n0->Γ k=some l->Γ1 k=some l
 n:I.n<=I1.n
 p:∀ b,Pu b->Pu1 b
 cI:∀ b,b<I.n->¬ bx Γ H I b->I1.get b=I.get b
 own:∀ b,b<I.n->bx Γ1 H1 I1 b->bx Γ H I b
 pn:∀ b,b<I.n->Pu1 b->Pu b∨bx Γ H I b
structure Vq (Pu:Nat->Prop) (I:IH) (Pu1:Nat->Prop) (I1:IH):Prop where
 n:I.n<=I1.n
 cI:∀ b,b<I.n->I1.get b=I.get b
 fresh:∀ b,I1.n<=b->I1.get b=none
 pu:∀ b,Pu1 b->∃ cs et fz ex sd,I1.get b=some (.cells cs et fz ex sd)
 pn:∀ b,b<I.n->Pu1 b->Pu b
 p:∀ b,Pu b->Pu1 b
theorem P0 {it:bm} {s:aF it.os} {H2:GH} (hr:KX H2 ((dX it.os s).1++(dX it.os s).2)=true) (hs:aw P hint sh Γ1 Pu1 H2 I1) (e:Ex (bx Γ (it.T.H ((),s)) I) Γ Pu (it.T.H ((),s)) I Γ1 Pu1 H2 I1):Vq Pu I Pu1 I1:=by
 have key:∀ {l:Ae},KX H2 l=true->∀ {id:Nat} {o:bL},(id,o)∈l->UZ o=true/\∃ o1,H2.t.lA id=some (0,o1)/\o1.dh=true:=by
  intro l
  induction l with
  |nil=>intro _ id o h;cases h
  |cons p r ih=>
   intro hl id o hm;obtain ⟨k,q⟩:=p;replace hl:=af hl;obtain ⟨hl,h3⟩:=hl;replace hl:=af hl;obtain ⟨h1,h2⟩:=hl;rcases List.mem_cons.1 hm with hm |hm
   ·cases hm
    refine ⟨h1,?_⟩;split at h2
    ·rename_i o1 hg;exact ⟨o1,hg,h2⟩
    ·cases h2
   ·exact ih h3 hm
 have own:∀ b,bx Γ (it.T.H ((),s)) I b->(∃ id o l y,(it.T.H ((),s)).aT id=some 0/\H2.aT id=some 0/\H2.get id=some o/\o.dh=true/\Γ id=some l/\l.pos=some (b,y)):=by
  rintro b ⟨id,o,l,hg,hm,hl,hat⟩;have hst:∃ z,(it.T.H ((),s)).t.lA id=some (z,o):=by
   unfold GH.get at hg;split at hg
   ·rename_i z o' hh;cases hg;exact ⟨z,hh⟩
   ·cases hg
  obtain ⟨z,hst⟩:=hst;obtain ⟨e1,e2⟩:=iA hst;have e1:z=0:=e1;have e2:(id,o)∈(dX it.os s).1++(dX it.os s).2:=e2;obtain ⟨h1,o1,h2,h3⟩:=key hr e2;have s0:(it.T.H ((),s)).aT id=some 0:=by unfold GH.aT;rw [hst,e1]
  have s2:H2.aT id=some 0:=by unfold GH.aT;rw [h2]
  have g2:H2.get id=some o1:=by unfold GH.get;rw [h2]
  rcases hat with ⟨y,hp⟩ |hh
  ·exact ⟨id,o1,l,y,s0,s2,g2,h3,hl,hp⟩
  ·cases o<;>first |(cases h1;done) |(cases hh;done)
 refine ⟨e.n,fun b hb=>?_,hs.fresh,hs.pu,fun b hb hp=>?_,e.p⟩
 ·by_cases ho:bx Γ (it.T.H ((),s)) I b
  ·obtain ⟨id,o,l,y,a1,a2,_,_,a5,a6⟩:=own b ho
   exact e.jv id l b y 0 a1 a2 a5 a6
  ·exact e.cI b hb ho
 ·rcases e.pn b hb hp with h |h
  ·exact h
  ·obtain ⟨id,o,l,y,a1,a2,a3,a4,a5,a6⟩:=own b h
   exact absurd hp (hs.sep b (.pos a3 a4 (e.g _ _ a5) a6))
def zp (P:Program) (hint:Hint) (sh:cA) (it:bm) (m:Nat) (Γ:bc) (Pu:Nat->Prop) (I:IH) (s:aF it.os) (ws:List Value):(ak it.re×aF it.DC)⊕(TypeId×Int)->Prop
 | .inl y=>∃ Γ1 Pu1 I1 v,cb P hint (ev P hint (cP hint) m) it.f ws I=some (.returned v,I1)/\(∀ Γ2,GR Γ2 Pu1 I1 (jS (fH it.re y.1)) v)/\(it.ro=false->P7 P hint sh it.n0 Γ Pu (it.T.H ((),s)) I Γ1 Pu1 (it.T2.H ((),y.2)) I1)/\(it.ro=true->Vq Pu I Pu1 I1)
 | .inr p=>∃ Γ1 Pu1 I1,cb P hint (ev P hint (cP hint) m) it.f ws I=some (.panicked (PA p.1 p.2),I1)/\P7 P hint sh it.n0 Γ Pu (it.T.H ((),s)) I Γ1 Pu1 (it.gone.T2.H ((),())) I1
theorem zp.hX {it:bm} {D D':Nat} {F F':Nat->ak it.pa×aF it.os->Option (PR it.pt (ak it.re×aF it.DC))} {m:Nat} {s:aF it.os} {ws:List Value} {y:(ak it.re×aF it.DC)⊕(TypeId×Int)} (h:zp P hint sh { it with D:=D,F:=F } m Γ Pu I s ws y):zp P hint sh { it with D:=D',F:=F' } m Γ Pu I s ws y:=by
 cases y<;>exact h
structure aN (P:Program) (hint:Hint) (sh:cA) (it:bm) (n:Nat):Prop where
 run:∀ {x:ak it.pa×aF it.os} {y:PR it.pt (ak it.re×aF it.DC)} {Γ:bc} {Pu:Nat->Prop} {I:IH} {us vs:List Value},it.F n x=some y->aw P hint sh Γ Pu (it.T.H ((),x.2)) I->bK Γ Pu I it.ar us->ua Pu I it.pa x.1 vs->
  zp P hint sh it (n+it.D) Γ Pu I x.2 (us++vs) (PR.el it.pt y)
theorem PR.XU {A B:Type} {f:A->B} {g:TypeId->Int->B}:∀ {p:Option TypeId} {y:PR p A},PR.cs p y f g=(match PR.el p y with
  | .inl y=>f y
  | .inr q=>g q.1 q.2):=by
 intro p y;cases p with
 |none=>rfl
 |some t=>cases y<;>rfl
theorem PR.XO {A:Type} {c:Bool} {p:Option TypeId} {t:TV} {v:Value} {o:Option A} {y:PR p A} (h:PR.mk c p t o=some y) (hr:GR Γ Pu I t v):∃ a,o=some a/\PR.el p y= .inl a:=by
 cases p with
 |none=>exact ⟨y,h,rfl⟩
 |some q=>
  simp only [PR.mk,wU hr] at h;cases o with
  |none=>cases h
  |some a=>cases h;exact ⟨a,rfl,rfl⟩
theorem PR.WG {A:Type} {c:Bool} {p:Option TypeId} {w:Value} {o:Option A} {y:PR p A} (h:PR.mk c p (.H5 w) o=some y) (ho:o=none):∃ t e,w=PA t e/\PR.el p y= .inr (t,e)/\c=true:=by
 cases p with
 |none=>simp only [PR.mk] at h;rw [ho] at h;cases h
 |some q=>
  simp only [PR.mk,Om] at h;split at h
  ·rename_i e he
   replace h:=ae h;cases h.2;exact ⟨q,e,FQ he,rfl,h.1⟩
  ·cases h
theorem Mb {it:bm} {s:aF it.os} {w:Value}:LK it s (.H5 w) H=none:=by
 unfold LK L1;simp only;cases hd:rB it.re [.H5 w] H with
 |none=>rfl
 |some x=>exact (Hy hd).elim
theorem RV {l:List (Bool×Sh)} {t:TV} {v:Value} {x:ak l} (hs:aw P hint sh Γ Pu H I) (h:L1 l t H=some (x,H1)) (hr:GR Γ Pu I t v):
  ∃ Pu1,aw P hint sh Γ Pu1 H1 I/\Ex (bx Γ H I) Γ Pu H I Γ Pu1 H1 I/\∀ Γ2,GR Γ2 Pu1 I (jS (fH l x)) v:=by
 unfold L1 at h;split at h
 ·rename_i vs
  cases hr with |jg hr=>
  cases hb:Nat.beq l.length 1 with
  |true=>rw [hb] at h;cases h
  |false=>
   rw [hb] at h;simp only [zab] at h;obtain ⟨Pu1,s1,e1,d1⟩:=nc hs h hr;refine ⟨Pu1,s1,e1,fun Γ2=>?_⟩;have hl:=tR (l:=l) (x:=x);have hg:=d1.WT (Γ:=Γ2);have:jS (fH l x)= .jg (fH l x):=by
    cases hq:fH l x with
    |nil=>rfl
    |cons a r=>
     cases r with
     |nil=>rw [hq] at hl;rw [←hl] at hb;cases hb
     |cons b r=>rfl
   rw [this];exact .jg hg
 ·obtain ⟨Pu1,s1,e1,d1⟩:=nc hs h (.cons hr .nil)
  refine ⟨Pu1,s1,e1,fun Γ2=>?_⟩;have hg:=d1.WT (Γ:=Γ2);cases hq:fH l x with
  |nil=>rw [hq] at hg;cases hg
  |cons a r=>
   rw [hq] at hg;cases hg with |cons c d=>cases d;exact c
theorem aN.of {it:bm} {n:Nat} {hk:(β:Type)->tu β} {sh:cA} (hT2:it.T2.ok P hint) (ho:∀ m,m<=n+it.D->sq P hint sh (hk (PR it.pt (ak it.re×aF it.DC))) m)
  (h:∀ x s,Bu stx P sh hint (gv stx P sh hint (hk (PR it.pt (ak it.re×aF it.DC))) (n+it.D)) it.f (it.ar++fH it.pa x) (it.T.H ((),s)) (Yg it s)=it.F n (x,s)):aN P hint sh it n where
 run:=fun {x y Γ Pu I us vs} hF hs ha hd=>by
  have ok:=Ou (P:=P) (hint:=hint) (sh:=sh) (hk:=hk (PR it.pt (ak it.re×aF it.DC))) (n+it.D) ho;rw [←h x.1 x.2] at hF;rcases pq ok hs hF (ha.append (hd.WT (Γ:=Γ))) with ⟨t,H1,Γ1,Pu1,v,I1,k1,k2,k3,k4,k5⟩ |⟨w,H1,Γ1,Pu1,I1,k1,k2,k4,k5⟩
  ·obtain ⟨a,k1,hel⟩:=PR.XO k1 k3
   rw [hel];unfold LK at k1;split at k1
   ·rename_i z H2 hz
    replace k1:=ae k1;obtain ⟨hro,k1⟩:=k1;split at k1
    ·rename_i s hst
     cases k1;obtain ⟨Pu2,s2,e2,g2⟩:=RV k4 hz k3;obtain ⟨q1,q2⟩:=DQ (l:=it.T2.jF) s2;have hst':it.T2.get ⟨.e,.e⟩ (nw it.T2.jF H2)=some s:=hst;obtain ⟨Γ3,t1,_,t3,t4,_⟩:=it.T2.gX hT2 q1 (E:=⟨.e,.e⟩) (E':=⟨.e,.e⟩) (fun t=>⟨.undef _,.undef _⟩) hst';have ee:=Ex.trans hs s2 (Ex.trans hs k4 k5 e2) q2;refine ⟨Γ3,Pu2,I1,v,k2,g2,fun _=>⟨t1,fun k l hk hl=>t3 k l hk (ee.g k l hl),ee.n,ee.p,ee.cI,fun b hb ho=>ee.own b hb (t4 b ho),ee.pn⟩,fun hr=>?_⟩;rw [hr] at hro;exact P0 (it:=it) (s:=x.2) hro s2 (Ex.trans hs k4 k5 e2)
    ·cases k1
   ·cases k1
  ·obtain ⟨t,e,rfl,hel,hb0⟩:=PR.WG k1 Mb
   rw [hel];replace hb0:=af hb0;have hbx:(Nat.ble it.n0 H1.n &&Nat.ble it.n0 it.n0 &&Nat.ble bU it.n0)=true:=by
    rw [hb0.1,hb0.2,Nat.ble_eq_true_of_le (zai _)];rfl
   have hT3:it.gone.T2.ok P hint:=fun p hp=>by cases hp
   obtain ⟨Γ3,t1,_,t3,t4,_⟩:=it.gone.T2.gX hT3 k4 (E:=⟨.e,.e⟩) (E':=⟨.e,.e⟩) (fun t=>⟨.undef _,.undef _⟩) (x:=((),())) (by unfold Tm.get;rw [show (Nat.ble it.gone.T2.n0 H1.n &&Nat.ble it.gone.T2.n0 it.gone.T2.n &&Nat.ble bU it.gone.T2.n0)=true from hbx];rfl);exact ⟨Γ3,Pu1,I1,k2,t1,fun k l hk hl=>t3 k l hk (k5.g k l hl),k5.n,k5.p,k5.cI,fun b hb ho=>k5.own b hb (t4 b ho),k5.pn⟩
theorem Sv {fr:List Nat}:∀ {H:GH} {k:Nat},(Go.Gv.eH fr H).get k=if k∈fr then none else H.get k:=by
 induction fr with
 |nil=>intro H k;simp [Go.Gv.eH]
 |cons a r ih=>
  intro H k
  show (Go.Gv.eH r (H.del a)).get k=_
  rw [ih,GH.cO];by_cases h1:k∈r<;>by_cases h2:k=a<;>simp [h1,h2]
theorem JN {fr:List Nat}:∀ {H:GH} {k:Nat},(Go.Gv.eH fr H).aT k=if k∈fr then none else H.aT k:=by
 induction fr with
 |nil=>intro H k;simp [Go.Gv.eH]
 |cons a r ih=>
  intro H k
  show (Go.Gv.eH r (H.del a)).aT k=_
  rw [ih,GH.eB];by_cases h1:k∈r<;>by_cases h2:k=a<;>simp [h1,h2]
theorem Ps {kn:Nat->Bool} {n0 n2 ck:Nat} {Z:Nat->Nat} {Hc:GH} {t:Tr (Nat×bL)}:∀ {ks:List Nat} {id:Nat} {p:Nat×bL},(JX kn n0 n2 ck Z Hc ks t).lA id=some p->
  (∃ k o,Hc.get k=some o/\(kn k=true∨n0<=k/\k<n2)/\vw kn n0 n2 o=true/\id=Z k/\p=(ck,Hf Z o))∨t.lA id=some p:=by
 intro ks
 induction ks with
 |nil=>intro id p h;exact .inr h
 |cons k r ih=>
  intro id p h;unfold JX at h;split at h
  ·rename_i o hg
   cases hb:((kn k ||(Nat.ble n0 k &&Nat.blt k n2)) &&vw kn n0 n2 o) with
   |false=>rw [hb] at h;exact ih h
   |true=>
    rw [hb] at h;simp only [zac,Tr.fN,Tr.eV] at h;have hp:=Tr.ah (JX kn n0 n2 ck Z Hc r t) (Z k) (some (ck,Hf Z o)) id;unfold Tr.put at hp;rw [hp] at h;split at h
    ·rename_i e
     cases h;replace hb:=af hb;refine .inl ⟨k,o,hg,?_,hb.2,e,rfl⟩;rw [Bool.or_eq_true] at hb;rcases hb.1 with h1 |h1
     ·exact .inl h1
     ·replace h1:=af h1
      exact .inr ⟨aB h1.1,cf h1.2⟩
    ·rw [←Tr.fN] at h;exact ih h
  ·exact ih h
theorem pC (Z:Nat->Nat) (o:bL):(Hf Z o).dh=o.dh:=by cases o<;>rfl
theorem lY {Z:Nat->Nat} {o:bL} {l:Loc} {b:Nat}:(Hf Z o).has I l b↔o.has I l b:=by cases o<;>exact Iff.rfl
theorem PF {kn:Nat->Bool} {n0 n2:Nat} {Z:Nat->Nat} (hρ:∀ k l,(kn k=true∨n0<=k/\k<n2)->Γ1 k=some l->Γ2 (Z k)=some l):∀ {cs:List TV} {vs:List Value},cs.all (Rt kn n0 n2)=true->bK Γ1 Pu I cs vs->bK Γ2 Pu I (cs.map (Qv Z)) vs:=by
 intro cs
 induction cs with
 |nil=>intro vs _ h;cases h;exact .nil
 |cons t r ih=>
  intro vs hn h;simp only [List.all_cons,zae] at hn;cases h with |cons a b=>
  refine .cons ?_ (ih hn.2 b);have hn1:=hn.1;cases t with
  |int k n=>cases a;exact .int k n
  |byte c=>cases a;exact .byte c
  |bool c=>cases a;exact .bool c
  |str c=>cases a;exact .str c
  |aC e xs nl cl=>cases a with |aC x y z=>exact .aC x y z
  |raw v=>cases a;exact .raw _
  |undef=>exact .undef _
  |all c=>
   cases a with |all x y=>
   refine .all (hρ c _ ?_ x) y;unfold Rt at hn1;rw [Bool.or_eq_true] at hn1;rcases hn1 with h1 |h1
   ·exact .inl h1
   ·replace h1:=af h1
    exact .inr ⟨aB h1.1,cf h1.2⟩
  |ptr c o=>cases a with |ptr x y=>exact .ptr (hρ c _ (.inl hn1) x) y
  |mp c=>cases a with |mp x y=>exact .mp (hρ c _ (.inl hn1) x) y
  |_=>cases hn1
theorem T6 {kn:Nat->Bool} {n0 n2:Nat} {Z:Nat->Nat} (hρ:∀ k l,(kn k=true∨n0<=k/\k<n2)->Γ1 k=some l->Γ2 (Z k)=some l) {o:bL} {l:Loc} (hg:vw kn n0 n2 o=true) (h:OR P hint Γ1 Pu I l o):OR P hint Γ2 Pu I l (Hf Z o):=by
 cases o with
 |cells et cs w=>
  obtain ⟨b,vs,fz,ex,sd,hp,hgb,hr,hw,hpu⟩:=h;exact ⟨b,vs,fz,ex,sd,hp,hgb,PF hρ hg hr,hw,hpu⟩
 |arr et e xs w fz em=>exact h
 |iter s p=>exact h
 |map kt gk ge k e xs em=>exact h
 |nest et e no net ne xs em ho=>
  have:ho=none:=by simpa [vw] using hg
  exact bH.VX h this
 |gT=>cases hg
 |loop=>cases hg
def yT (n0 n2 m:Nat) (Γ Γ1:bc):bc:=fun id=>if id<m then Γ id else if id<m+(n2 - n0) then Γ1 (n0+(id - m)) else none
theorem bm.leave (it:bm) (hs:aw P hint sh Γ Pu H I) {al:List (Nat×Nat)} {us:Us} {s:aF it.os} {y:aF it.DC} (hw:WQ it (sg al) us) (hlow:Mh (sg al) it.kn Γ Γ') (hs':aw P hint sh Γ' Pu (it.T.H ((),s)) I)
  (hobj:∀ p∈it.os,∃ o,H.get (sg al p.1)=some o)
  (hown:∀ b,bx Γ' (it.T.H ((),s)) I b->∃ id o l,id∈it.os.map (fun p=>sg al p.1)++fE us/\H.get id=some o/\o.dh=true/\Γ id=some l/\At I l o b)
  (hl:P7 P hint sh it.n0 Γ' Pu (it.T.H ((),s)) I Γ1 Pu1 (it.T2.H ((),y)) I1):
  aw P hint sh (yT it.n0 it.n2 H.n Γ Γ1) Pu1 (it.qe (sg al) us H y) I1/\Ex (bx Γ H I) Γ Pu H I (yT it.n0 it.n2 H.n Γ Γ1) Pu1 (it.qe (sg al) us H y) I1:=by
 have hG:∀ id l,Γ id=some l->yT it.n0 it.n2 H.n Γ Γ1 id=some l:=fun id l h=>by
  unfold yT;rw [if_pos (hs.bj id l h)];exact h
 have hρ:∀ k l,(it.kn k=true∨it.n0<=k/\k<it.n2)->Γ1 k=some l->yT it.n0 it.n2 H.n Γ Γ1 (Ve (sg al) it.n0 H.n k)=some l:=by
  intro k l hk h1;rcases hk with hk |⟨h2,h3⟩
  ·have hlt:k<it.n0:=by
    rcases bm.LL hk with h2 |⟨q,hq,h2⟩
    ·exact Nat.lt_of_lt_of_le h2 hw.gl
    ·have:=(hw.os q hq).2;omega
   have:∃ l0,Γ (sg al k)=some l0:=by
    rcases bm.LL hk with h2 |⟨q,hq,h2⟩
    ·obtain ⟨l0,h3,_⟩:=hs.cE k h2
     exact ⟨l0,by rw [U9 h2];exact h3⟩
    ·obtain ⟨o,ho⟩:=hobj q hq
     obtain ⟨l0,h3,_⟩:=hs.obj _ o ho;exact ⟨l0,by rw [←h2];exact h3⟩
   obtain ⟨l0,h4⟩:=this;have h5:=hl.low k l0 hlt ((hlow k hk).trans h4);cases h1.symm.trans h5;unfold Ve;rw [show Nat.blt k it.n0=true from Nat.ble_eq_true_of_le hlt];exact hG _ _ h4
  ·have hb:Nat.blt k it.n0=false:=by
    cases hq:Nat.blt k it.n0 with
    |false=>rfl
    |true=>have:=cf hq;omega
   unfold Ve yT;rw [hb];simp only [zab];rw [if_neg (by omega),if_pos (by omega),show it.n0+(H.n+(k - it.n0) - H.n)=k by omega];exact h1
 have hO:∀ b,bx Γ' (it.T.H ((),s)) I b->bx Γ H I b:=fun b hb=>by
  obtain ⟨id,o,l,_,h1,h2,h3,h4⟩:=hown b hb;exact ⟨id,o,l,h1,h2,h3,h4⟩
 have hpuI:∀ b,Pu b->I1.get b=I.get b:=fun b hb=>hl.cI b (hs.jh hb) fun ho=>hs'.sep b ho hb
 have kk:cH Γ Pu I (yT it.n0 it.n2 H.n Γ Γ1) Pu1 I1:=⟨hG,hl.p,hpuI⟩;have frame:∀ id o l b,id∉it.os.map (fun p=>sg al p.1)++fE us->H.get id=some o->o.dh=true->Γ id=some l->At I l o b->b<I.n/\¬ bx Γ' (it.T.H ((),s)) I b:=by
  intro id o l b hid hg hm hl' hat;refine ⟨hs.cq ⟨id,o,l,hg,hm,hl',hat⟩,fun ho=>?_⟩;obtain ⟨id2,o2,l2,h0,h1,h2,h3,h4⟩:=hown b ho;have:=hs.inj id id2 o o2 l l2 b hg h1 hm h2 hl' h3 hat h4;exact hid (this▸h0)
 have frameI:∀ id o l,id∉it.os.map (fun p=>sg al p.1)++fE us->H.get id=some o->o.dh=true->Γ id=some l->∀ b,At I l o b->I1.get b=I.get b:=by
  intro id o l hid hg hm hl' b hat;obtain ⟨h1,h2⟩:=frame id o l b hid hg hm hl' hat;exact hl.cI b h1 h2
 have frameA:∀ id o l,id∉it.os.map (fun p=>sg al p.1)++fE us->H.get id=some o->o.dh=true->Γ id=some l->∀ b,At I1 l o b->At I l o b:=by
  intro id o l hid hg hm hl' b hat;exact hat.congr fun b x hp=>frameI id o l hid hg hm hl' b (.inl ⟨x,hp⟩)
 have cases2:∀ id s' o,(it.qe (sg al) us H y).t.lA id=some (s',o)->
   (∃ k o',(it.T2.H ((),y)).get k=some o'/\(it.kn k=true∨it.n0<=k/\k<it.n2)/\vw it.kn it.n0 it.n2 o'=true/\id=Ve (sg al) it.n0 H.n k/\s'=H.ck/\o=Hf (Ve (sg al) it.n0 H.n) o')∨
   (id∉it.os.map (fun p=>sg al p.1)++fE us/\H.get id=some o/\H.aT id=some s'):=by
  intro id s' o h;rcases Ps h with ⟨k,o',h1,h2,h3,h4,h5⟩ |h
  ·cases h5
   exact .inl ⟨k,o',h1,h2,h3,h4,rfl,rfl⟩
  ·right
   have hgd:(Go.Gv.eH (it.os.map (fun p=>sg al p.1)++fE us) H).get id=some o:=by unfold GH.get;rw [h]
   have hsd:(Go.Gv.eH (it.os.map (fun p=>sg al p.1)++fE us) H).aT id=some s':=by unfold GH.aT;rw [h]
   rw [Sv] at hgd;rw [JN] at hsd;split at hgd
   ·cases hgd
   ·rename_i hne
    rw [if_neg hne] at hsd;exact ⟨hne,hgd,hsd⟩
 have getC:∀ id o,(it.qe (sg al) us H y).get id=some o->
   (∃ k o' l,(it.T2.H ((),y)).get k=some o'/\(it.kn k=true∨it.n0<=k/\k<it.n2)/\vw it.kn it.n0 it.n2 o'=true/\id=Ve (sg al) it.n0 H.n k/\o=Hf (Ve (sg al) it.n0 H.n) o'/\Γ1 k=some l/\yT it.n0 it.n2 H.n Γ Γ1 id=some l/\OR P hint Γ1 Pu1 I1 l o')∨
   (id∉it.os.map (fun p=>sg al p.1)++fE us/\H.get id=some o):=by
  intro id o h;unfold GH.get at h;split at h
  ·rename_i s' o' heq
   cases h;rcases cases2 id s' o heq with ⟨k,o',h1,h2,h3,h4,_,h6⟩ |⟨h1,h2,_⟩
   ·obtain ⟨l,h7,h8⟩:=hl.dI.obj k o' h1
    exact .inl ⟨k,o',l,h1,h2,h3,h4,h6,h7,by rw [h4];exact hρ k l h2 h7,h8⟩
   ·exact .inr ⟨h1,h2⟩
  ·cases h
 have ownC:∀ b,bx (yT it.n0 it.n2 H.n Γ Γ1) (it.qe (sg al) us H y) I1 b->bx Γ1 (it.T2.H ((),y)) I1 b∨(∃ id o l,id∉it.os.map (fun p=>sg al p.1)++fE us/\H.get id=some o/\o.dh=true/\Γ id=some l/\At I l o b):=by
  rintro b ⟨id,o,l,hg,hm,hl',hat⟩;rcases getC id o hg with ⟨k,o',l',h1,h2,h3,h4,h5,h6,h7,h8⟩ |⟨h1,h2⟩
  ·cases hl'.symm.trans h7
   subst h5;rw [pC] at hm;exact .inl ⟨k,o',l,h1,hm,h6,hat.imp (fun h=>h) lY.1⟩
  ·obtain ⟨l0,h3,_⟩:=hs.obj id o h2
   cases hl'.symm.trans (hG _ _ h3);exact .inr ⟨id,o,l,h1,h2,hm,h3,frameA id o l h1 h2 hm h3 b hat⟩
 have apartB:∀ b,(∃ id o l,id∉it.os.map (fun p=>sg al p.1)++fE us/\H.get id=some o/\o.dh=true/\Γ id=some l/\At I l o b)->¬ bx Γ1 (it.T2.H ((),y)) I1 b:=by
  rintro b ⟨id,o,l,h1,h2,h3,h4,h5⟩ ho;obtain ⟨h6,h7⟩:=frame id o l b h1 h2 h3 h4 h5;exact h7 (hl.own b h6 ho)
 have hstC:∀ id s',(it.qe (sg al) us H y).aT id=some s'->s'=H.ck∨(id∉it.os.map (fun p=>sg al p.1)++fE us/\H.aT id=some s'):=by
  intro id s' h;unfold GH.aT at h;split at h
  ·rename_i s2 o heq
   cases h;rcases cases2 id s' o heq with ⟨_,_,_,_,_,_,h5,_⟩ |⟨h1,_,h3⟩
   ·exact .inl h5
   ·exact .inr ⟨h1,h3⟩
  ·cases h
 refine ⟨⟨?_,?_,?_,?_,hl.dI.fresh,hl.dI.pu,hl.dI.ro,?_,?_,?_,hl.dI.HX⟩,⟨hG,?_,hl.n,hl.p,?_,?_,?_,?_,?_,?_⟩⟩
 ·intro id o hg
  rcases getC id o hg with ⟨k,o',l',h1,h2,h3,h4,h5,h6,h7,h8⟩ |⟨h1,h2⟩
  ·exact ⟨l',h7,by rw [h5];exact T6 hρ h3 h8⟩
  ·obtain ⟨l,h3,_⟩:=hs.obj id o h2
   exact ⟨l,hG _ _ h3,hs.dR kk h2 h3 fun hm b hat=>frameI id o l h1 h2 hm h3 b hat⟩
 ·intro i j oi oj li lj b g1 g2 m1 m2 q1 q2 t1 t2
  rcases getC i oi g1 with ⟨k,o',l',h1,h2,h3,h4,h5,h6,h7,h8⟩ |⟨h1,h2⟩<;>rcases getC j oj g2 with ⟨k',o2,l2,f1,f2,f3,f4,f5,f6,f7,f8⟩ |⟨f1,f2⟩
  ·cases q1.symm.trans h7
   cases q2.symm.trans f7;subst h5 f5;rw [pC] at m1 m2;have:=hl.dI.inj k k' o' o2 li lj b h1 f1 m1 m2 h6 f6 (t1.imp (fun h=>h) lY.1) (t2.imp (fun h=>h) lY.1);rw [h4,f4,this]
  ·cases q1.symm.trans h7
   subst h5;rw [pC] at m1;obtain ⟨l0,h9,_⟩:=hs.obj j oj f2;cases q2.symm.trans (hG _ _ h9);exact absurd ⟨k,o',li,h1,m1,h6,t1.imp (fun h=>h) lY.1⟩ (apartB b ⟨j,oj,lj,f1,f2,m2,h9,frameA j oj lj f1 f2 m2 h9 b t2⟩)
  ·cases q2.symm.trans f7
   subst f5;rw [pC] at m2;obtain ⟨l0,h9,_⟩:=hs.obj i oi h2;cases q1.symm.trans (hG _ _ h9);exact absurd ⟨k',o2,lj,f1,m2,f6,t2.imp (fun h=>h) lY.1⟩ (apartB b ⟨i,oi,li,h1,h2,m1,h9,frameA i oi li h1 h2 m1 h9 b t1⟩)
  ·obtain ⟨l0,h9,_⟩:=hs.obj i oi h2
   cases q1.symm.trans (hG _ _ h9);obtain ⟨l1,f9,_⟩:=hs.obj j oj f2;cases q2.symm.trans (hG _ _ f9);exact hs.inj i j oi oj li lj b h2 f2 m1 m2 h9 f9 (frameA i oi li h1 h2 m1 h9 b t1) (frameA j oj lj f1 f2 m2 f9 b t2)
 ·intro b hb hpu
  rcases ownC b hb with h |h
  ·exact hl.dI.sep b h hpu
  ·obtain ⟨id,o,l,h1,h2,h3,h4,h5⟩:=h
   obtain ⟨h6,h7⟩:=frame id o l b h1 h2 h3 h4 h5;rcases hl.pn b h6 hpu with h8 |h8
   ·exact hs.sep b ⟨id,o,l,h2,h3,h4,h5⟩ h8
   ·exact h7 h8
 ·intro id l h
  show id<H.n+(it.n2 - it.n0)
  unfold yT at h;split at h
  ·omega
  ·split at h
   ·omega
   ·cases h
 ·show bU<=H.n+(it.n2 - it.n0)
  have:=hs.gn;omega
 ·intro g hg
  obtain ⟨l,h1,h2⟩:=hs.cE g hg;exact ⟨l,hG _ _ h1,h2⟩
 ·intro id s' h
  show s'<H.ck+1
  rcases hstC id s' h with h1 |⟨_,h1⟩
  ·omega
  ·have:=hs.st id s' h1;omega
 ·show H.n<=H.n+(it.n2 - it.n0)
  omega
 ·intro b hb ho
  exact hl.cI b hb fun h=>ho (hO b h)
 ·intro b hb ho
  rcases ownC b ho with h |⟨id,o,l,h1,h2,h3,h4,h5⟩
  ·exact hO b (hl.own b hb h)
  ·exact ⟨id,o,l,h2,h3,h4,h5⟩
 ·intro b hb hp
  rcases hl.pn b hb hp with h |h
  ·exact .inl h
  ·exact .inr (hO b h)
 ·show H.ck<=H.ck+1
  omega
 ·intro id _
  cases hq:(it.qe (sg al) us H y).aT id with
  |none=>exact .inl rfl
  |some s'=>
   rcases hstC id s' hq with h1 |⟨_,h1⟩
   ·exact .inr (.inr ⟨s',rfl,by omega⟩)
   ·exact .inr (.inl h1.symm)
 ·intro id l b x s' h1 h2 h3 h4
  rcases hstC id s' h2 with h5 |⟨h5,_⟩
  ·have:=hs.st id s' h1;omega
  ·exact hs.eC kk h1 h3 h4 fun o hg hm=>frameI id o l h5 hg hm h3 b (.inl ⟨x,h4⟩)
theorem q8 {σ:Nat->Nat} {kn:Nat->Bool} {n:Nat}:∀ {l:List (Nat×OT)} {us us':Us} {x:aF l},gO σ kn H n l us=some (x,us')->∀ p∈l,∃ o,H.get (σ p.1)=some o:=by
 intro l
 induction l with
 |nil=>intro us us' x _ p hp;cases hp
 |cons q r ih=>
  intro us us' x h p hp;obtain ⟨k,t⟩:=q;simp only [gO] at h;replace h:=ae h;obtain ⟨hb,h⟩:=h;split at h
  ·rename_i o hg
   split at h
   ·split at h
    ·rename_i h2
     rcases List.mem_cons.1 hp with rfl |hp
     ·exact ⟨o,hg⟩
     ·exact ih h2 p hp
    ·cases h
   ·cases h
  ·cases h
theorem aN.aK {it:bm} {n:Nat} (hT:it.T.ok P hint) (hok:∀ m,m+it.D=n->aN P hint sh it m) {args:List TV} {args':List Value} {K:TV->GH->Option β} (h:it.aK β n args H K=some r) (hs:aw P hint sh Γ Pu H I) (ha:bK Γ Pu I args args'):
  eQ P hint sh K r Γ Pu H I (cb P hint (ev P hint (cP hint) n) it.f args' I):=by
 unfold bm.aK at h;replace h:=ae h;obtain ⟨hb,h⟩:=h;have hle:=aB hb;split at h
 ·rename_i x H1 hd
  replace h:=ae h;obtain ⟨hfx,h⟩:=h;split at h
  ·rename_i s us hg
   replace h:=ae h;obtain ⟨hwf,h⟩:=h;cases hF:it.F (n - it.D) (x,s) with
   |none=>rw [hF] at h;cases h
   |some y=>
    rw [hF] at h;simp only [zaa] at h;have hargs:args'=args'.take it.ar.length++args'.drop it.ar.length:=(List.take_append_drop _ _).symm;obtain ⟨Pu1,s1,e1,d1⟩:=nc hs hd (ha.drop it.ar.length);have hw:=bm.XE hwf;obtain ⟨Γ',s2,low,own⟩:=bm.enter it hT s1 hg hw;have k1:=e1.cJ hs;have gar:bK Γ' Pu1 I it.ar (args'.take it.ar.length):=SP low hfx ((ha.take it.ar.length).mono k1);have hrun:=(hok (n - it.D) (by omega)).run hF s2 gar d1;rw [show n - it.D+it.D=n by omega,←hargs] at hrun;rw [PR.XU] at h;cases hel:PR.el it.pt y with
    |inl z=>
     rw [hel] at hrun h;obtain ⟨Γ2,Pu2,I2,v,r1,r2,r3,r4⟩:=hrun;cases hro:it.ro with
     |false=>
      rw [hro] at h;obtain ⟨s3,e3⟩:=bm.leave it s1 hw low s2 (q8 hg) own (r3 hro);exact .inl ⟨_,_,_,_,v,I2,h,r1,r2 _,s3,Ex.trans hs s1 e1 e3⟩
     |true=>
      rw [hro] at h;have r5:=r4 hro;obtain ⟨s3,e3⟩:=s1.outside r5.n r5.cI r5.fresh r5.pu r5.pn;have hP:(fun b=>Pu1 b∨Pu2 b)=Pu2:=by funext b;exact propext ⟨fun h=>h.elim (r5.p b) id,.inr⟩
      exact .inl ⟨_,_,_,_,v,I2,h,r1,by rw [hP];exact r2 _,s3,Ex.trans hs s1 e1 e3⟩
    |inr p=>
     rw [hel] at hrun h;obtain ⟨Γ2,Pu2,I2,r1,r3⟩:=hrun;obtain ⟨s3,e3⟩:=bm.leave it.gone s1 hw.gone low s2 (q8 hg) own r3;exact .inr ⟨_,_,_,_,I2,h,r1,s3,Ex.trans hs s1 e1 e3⟩
  ·cases h
 ·cases h
def Ks (f:FuncId):List bm->Option bm
 | []=>none
 |it::r=>bif Nat.beq it.f f then some it else Ks f r
theorem RH {f:FuncId}:∀ {l:List bm} {it:bm},Ks f l=some it->it∈l/\it.f=f:=by
 intro l
 induction l with
 |nil=>intro it h;cases h
 |cons a r ih=>
  intro it h;unfold Ks at h;cases hb:Nat.beq a.f f with
  |true=>rw [hb] at h;cases h;exact ⟨List.mem_cons_self,beq_true hb⟩
  |false=>rw [hb] at h;obtain ⟨h1,h2⟩:=ih h;exact ⟨zak _ h1,h2⟩
noncomputable def an.vb (k:an) (ps:List bm) (β:Type):tu β where
 call:=fun f=>match Ks f ps with
  |some it=>some (it.aK β)
  |none=>(k.hk β).call f
 loop:=(k.hk β).loop
structure ct (P:Program) (hint:Hint) (sh:cA) (ps:List bm):Prop where
 ps:∀ it∈ps,(∀ n,aN P hint sh it n)/\it.T.ok P hint
theorem ct.nil:ct P hint sh []:=⟨fun it h=>by cases h⟩
theorem ct.fn {ps:List bm} (h:ct P hint sh ps) {it:bm} (hi:∀ n,aN P hint sh it n) (hT:it.T.ok P hint):ct P hint sh (it::ps):=
 ⟨fun a ha=>by
  rcases List.mem_cons.1 ha with rfl |ha
  ·exact ⟨hi,hT⟩
  ·exact h.ps a ha⟩
theorem ab.eG {k:an} (h:ab P hint sh k) {ps:List bm} (hp:ct P hint sh ps) (n:Nat):sq P hint sh (k.vb ps β) n where
 call:=fun {f g args args' H K r Γ Pu I} hg hr hs ha=>by
  simp only [an.vb] at hg;split at hg
  ·rename_i it hit
   cases hg;obtain ⟨hm,rfl⟩:=RH hit;exact aN.aK (hp.ps it hm).2 (fun m _=>(hp.ps it hm).1 m) hr hs ha
  ·exact (h.aK n).call hg hr hs ha
 loop:=fun {bO fi ro ro' c g E E' H K r Γ Pu I n0 D} hg hr hs he hf hro hd hn=>(h.aK n).loop hg hr hs he hf hro hd hn
theorem aN.zero {it:bm} (h:∀ n x,it.F n x=none) (n:Nat):aN P hint sh it n where
 run:=fun {x y Γ Pu I us vs} hF _ _ _=>by
  rw [h] at hF;cases hF
theorem aN.Cc {it:bm} {D:Nat} (b:(Nat->ak it.pa×aF it.os->Option (PR it.pt (ak it.re×aF it.DC)))->Nat->ak it.pa×aF it.os->Option (PR it.pt (ak it.re×aF it.DC))) (Fd:Nat->Nat->ak it.pa×aF it.os->Option (PR it.pt (ak it.re×aF it.DC)))
  (h0:∀ n x,Fd 0 n x=none) (hs:∀ d n x,Fd (d+1) n x=bif Nat.ble D n then b (Fd d) (n - D) x else none)
  (hb:∀ Fr,(∀ m,aN P hint sh { it with D:=0,F:=Fr } m)->∀ n,aN P hint sh { it with D:=D,F:=b Fr } n):∀ d n,aN P hint sh { it with D:=0,F:=Fd d } n:=by
 intro d
 induction d with
 |zero=>exact fun n=>aN.zero (it:={ it with D:=0,F:=Fd 0 }) h0 n
 |succ d ih=>
  intro n;refine ⟨fun {x y Γ Pu I us vs} hF hS hA hD=>?_⟩;have h2:Fd (d+1) n x=some y:=hF;rw [hs] at h2;cases hle:Nat.ble D n with
  |false=>rw [hle] at h2;cases h2
  |true=>
   rw [hle,zac] at h2;have hD2:n - D+D=n:=Nat.sub_add_cancel (Nat.le_of_ble_eq_true hle);have:=(hb (Fd d) ih (n - D)).run (x:=x) (y:=y) (Γ:=Γ) h2 hS hA hD;simp only [hD2] at this;exact zp.hX this
theorem aN.diag {it:bm} (Fd:Nat->Nat->ak it.pa×aF it.os->Option (PR it.pt (ak it.re×aF it.DC))) (h:∀ d n,aN P hint sh { it with D:=0,F:=Fd d } n) (n:Nat):aN P hint sh { it with D:=0,F:=fun n x=>Fd n n x } n:=
 ⟨fun {x y Γ Pu I us vs} hF hS hA hD=>zp.hX ((h n n).run (x:=x) (y:=y) (Γ:=Γ) hF hS hA hD)⟩
end
end Go.Gv
