/- Plain functions for functions and loops: what they are handed, what they hand back. -/
import Derived.Test.YtdelfjdjenlaiaaGreatDoorGvTop
set_option linter.unusedSimpArgs false
set_option linter.unusedVariables false
namespace Go.Gv
open Go Go.Iv
inductive T1 where
 |int (k:IntKind)
 |byte
 |bool
 |str
 |aC (e:Sh)
 |all (c:Nat) (et:TypeId) (e:Sh) (em:Em)
 |gZ (c:Nat) (et:TypeId) (e:Sh) (no:Nat) (net:TypeId) (ne:Sh) (em:Em)
 |fix (t:TV)
abbrev T1.ty:T1->Type
 | .int _=>Int
 | .byte=>UInt8
 | .bool=>Bool
 | .str=>List UInt8
 | .aC e=>List e.ty
 | .all _ _ e _=>List e.ty
 | .gZ _ _ e _ _ _ _=>List e.ty
 | .fix _=>Unit
abbrev UX:List T1->Type
 | []=>Unit
 |t::r=>t.ty×UX r
inductive T2 where
 |one (t:T1)
 |agg (l:List T1)
abbrev T2.ty:T2->Type
 | .one t=>t.ty
 | .agg l=>UX l
abbrev AJ:List (Nat×T2)->Type
 | []=>Unit
 |(_,t)::r=>t.ty×AJ r
inductive OT where
 |cells (et:TypeId) (l:List T1) (wr:Bool)
 |arr (et:TypeId) (e:Sh) (wr fz:Bool) (em:Em)
 |iter
 |nest (et:TypeId) (e:Sh) (no:Nat) (net:TypeId) (ne:Sh) (em:Em)
 |map (kt:TypeId) (gk ge:Bool) (k e:Sh) (em:Bool)
 |gT (kt:TypeId) (gk:Bool) (k:Sh) (net:TypeId) (ne:Sh)
 |loop (bO:Nat) (st:LoopState) (pd:Option Code) (fi:FI) (E:List (Nat×T2)) (ps:List Tmp) (dZ body:Code)
abbrev OT.ty:OT->Type
 | .cells _ l _=>UX l
 | .arr _ e _ _ _=>List e.ty
 | .iter=>List UInt8×Nat
 | .nest _ e _ _ _ _=>List e.ty
 | .map _ _ _ k e _=>List (k.ty×e.ty)
 | .gT _ _ k _ ne=>List (k.ty×List ne.ty)
 | .loop _ _ _ _ E _ _ _=>AJ E
abbrev aF:List (Nat×OT)->Type
 | []=>Unit
 |(_,t)::r=>t.ty×aF r
structure Tm where
 env:List (Nat×T2)
 jF:List (Nat×OT)
 n0:Nat
 n:Nat
 ck:Nat
abbrev Tm.ty (T:Tm):Type:=AJ T.env×aF T.jF
noncomputable section
abbrev Ae:=List (Nat×bL)
def T1.put:(t:T1)->t.ty->TV×Ae
 | .int k,n=>(.int k n,[])
 | .byte,c=>(.byte c,[])
 | .bool,b=>(.bool b,[])
 | .str,s=>(.str s,[])
 | .aC e,xs=>(.aC e xs none false,[])
 | .all c et e em,xs=>(.all c,[(c,.arr et e xs true false em)])
 | .gZ c et e no net ne em,xs=>(.all c,[(c,.nest et e no net ne xs em none)])
 | .fix t,_=>(t,[])
def yX:(l:List T1)->UX l->List TV×Ae
 | [],_=>([],[])
 |t::r,x=>((t.put x.1).1::(yX r x.2).1,(t.put x.1).2++(yX r x.2).2)
def T2.put:(t:T2)->t.ty->TV×Ae
 | .one t,x=>t.put x
 | .agg l,x=>(.agg (yX l x).1,(yX l x).2)
def mA:(l:List (Nat×T2))->AJ l->ID×Ae
 | [],_=>(.e,[])
 |(k,t)::r,x=>(.c k (t.put x.1).1 (mA r x.2).1,(t.put x.1).2++(mA r x.2).2)
def OT.put:(t:OT)->t.ty->bL×Ae
 | .cells et l w,x=>(.cells et (yX l x).1 w,(yX l x).2)
 | .arr et e w fz em,xs=>(.arr et e xs w fz em,[])
 | .iter,x=>(.iter x.1 x.2,[])
 | .nest et e no net ne em,xs=>(.nest et e no net ne xs em none,[])
 | .map kt gk ge k e em,xs=>(.map kt gk ge k e xs em,[])
 | .gT kt gk k net ne,xs=>(.gT kt gk k net ne xs none,[])
 | .loop bO st pd fi E ps dZ body,x=>(.loop bO st pd fi ⟨(mA E x).1,.e⟩ ps dZ body,(mA E x).2)
def dX:(l:List (Nat×OT))->aF l->Ae×Ae
 | [],_=>([],[])
 |(id,t)::r,x=>((id,(t.put x.1).1)::(dX r x.2).1,(t.put x.1).2++(dX r x.2).2)
def P6 (ck:Nat):Ae->Tr (Nat×bL)
 | []=> .nil
 |(id,o)::r=>Tr.qU (some (ck,o)) (Nat.succ id) (P6 ck r) id
def Tm.E (T:Tm) (x:T.ty):GE:=⟨(mA T.env x.1).1,.e⟩
def Tm.H (T:Tm) (x:T.ty):GH:=⟨P6 T.ck ((mA T.env x.1).2++((dX T.jF x.2).1++(dX T.jF x.2).2)),T.n,Nat.succ T.ck⟩
def JK (n:Nat):List TV->Bool
 | []=>true
 | .ptr id _::r=>Nat.blt id n &&JK n r
 | .mX id::r=>Nat.blt id n &&JK n r
 | .all id::r=>Nat.blt id n &&JK n r
 | .raw _::r | .undef::r=>JK n r
 |_=>false
def Vc (n:Nat):TV->Bool
 | .ptr id _=>Nat.blt id n
 | .mX id=>Nat.blt id n
 | .all id=>Nat.blt id n
 | .mp id=>Nat.blt id n
 | .raw _ | .undef=>true
 | .fn _ a c=>JK n a &&JK n c
 |_=>false
def va:Value->Value->Bool
 | .pointer none,.pointer none=>true
 | .nilFunc,.nilFunc=>true
 | .nilIface,.nilIface=>true
 | .map none,.map none=>true
 | .slice none 0 0,.slice none 0 0=>true
 |_,_=>false
def gQ:List TV->List TV->Bool
 | [],[]=>true
 | .ptr a b::r,.ptr a' b'::r'=>Nat.beq a a' &&Nat.beq b b' &&gQ r r'
 | .mX a::r,.mX a'::r'=>Nat.beq a a' &&gQ r r'
 | .raw v::r,.raw v'::r'=>va v v' &&gQ r r'
 |_,_=>false
def qp:TV->TV->Bool
 | .undef,_=>true
 | .ptr a b,.ptr a' b'=>Nat.beq a a' &&Nat.beq b b'
 | .mX a,.mX a'=>Nat.beq a a'
 | .raw v,.raw v'=>va v v'
 | .all a,.all a'=>Nat.beq a a'
 | .mp a,.mp a'=>Nat.beq a a'
 | .fn f a c,.fn f' a' c'=>Nat.beq f f' &&gQ a a' &&gQ c c'
 |_,_=>false
def OK (H:GH) (et:TypeId) (e:Sh) (em:Em):TV->Option (Option (Nat×Nat×Nat)×List e.ty)
 | .raw (.slice none 0 0)=>bif em.si then some (none,[]) else none
 | .all id=>match H.get id with
  |some (.arr et' e' xs true false em')=>bif Nat.beq et et' &&em'.le em then
    match Sh.same e' e with
    |some ⟨h⟩=>some (some (id,0,xs.length),fG h xs)
    |none=>none
   else none
  |_=>none
 | .own id off len=>match H.get id with
  |some (.arr et' e' xs true false em')=>bif Nat.beq et et' &&(bif em'.si then Em.any.le em else Em.no.le em) then
    match Sh.same e' e with
    |some ⟨h⟩=>some (some (id,off,len),fG h ((xs.drop off).take len))
    |none=>none
   else none
  |_=>none
 |_=>none
def Je (H:GH) (et:TypeId) (e:Sh) (no:Nat) (net:TypeId) (ne:Sh) (em:Em):TV->Option (Option (Nat×Nat×Nat)×List e.ty)
 | .raw (.slice none 0 0)=>bif em.si &&HW e no ne then some (none,[]) else none
 | .all id=>match H.get id with
  |some (.nest et' e' no' net' ne' xs em' none)=>bif Nat.beq et et' &&Nat.beq no no' &&Nat.beq net net' &&em'.le em then
    match Sh.same e' e,Sh.same ne' ne with
    |some ⟨h⟩,some _=>some (some (id,0,xs.length),fG h xs)
    |_,_=>none
   else none
  |_=>none
 |_=>none
def XI {a b c d:Sh} (h:a=b) (h':c=d) (xs:List (a.ty×c.ty)):List (b.ty×d.ty):=h▸h'▸xs
def W9 {a b c d:Sh} (h:a=b) (h':c=d) (xs:List (a.ty×List c.ty)):List (b.ty×List d.ty):=h▸h'▸xs
def Il {α:Type}:Option (α×List TV)->Option α
 |some (x,[])=>some x
 |_=>none
abbrev Us:=List (Nat×Option (Nat×Nat×Nat)×Nat)
def BZ (c:Nat):Us->Bool
 | []=>true
 |(c',_)::r=> !Nat.beq c c' &&BZ c r
def yn (id:Nat):Us->Bool
 | []=>true
 |(_,some (id',_),_)::r=> !Nat.beq id id' &&yn id r
 |(_,none,_)::r=>yn id r
def T1.get (H:GH) (n0 n:Nat) (us:Us):(t:T1)->TV->Option (t.ty×Us)
 | .int k,v=>match Il (ofInt k [v]) with
  |some x=>some (x,us)
  |none=>none
 | .byte,v=>match Il (BU [v]) with
  |some x=>some (x,us)
  |none=>none
 | .bool,v=>match Il (ofBool [v]) with
  |some x=>some (x,us)
  |none=>none
 | .str,v=>match Il (ofStr [v]) with
  |some x=>some (x,us)
  |none=>none
 | .aC e,v=>match Il (An e [v]) with
  |some x=>some (x,us)
  |none=>none
 | .all c et e em,v=>bif Nat.ble n0 c &&Nat.blt c n &&BZ c us then
   match OK H et e em v with
   |some (none,xs)=>some (xs,(c,none,e.sz)::us)
   |some (some (id,p),xs)=>bif yn id us then some (xs,(c,some (id,p),e.sz)::us) else none
   |none=>none
  else none
 | .gZ c et e no net ne em,v=>bif Nat.ble n0 c &&Nat.blt c n &&BZ c us then
   match Je H et e no net ne em v with
   |some (none,xs)=>some (xs,(c,none,e.sz)::us)
   |some (some (id,p),xs)=>bif yn id us then some (xs,(c,some (id,p),e.sz)::us) else none
   |none=>none
  else none
 | .fix t,v=>bif qp t v &&Vc n0 t then some ((),us) else none
def Qf (H:GH) (n0 n:Nat):(l:List T1)->Us->List TV->Option (UX l×Us)
 | [],us,[]=>some ((),us)
 |t::r,us,v::vs=>match t.get H n0 n us v with
  |some (x,us)=>match Qf H n0 n r us vs with
   |some (y,us)=>some ((x,y),us)
   |none=>none
  |none=>none
 |_,_,_=>none
def T2.get (H:GH) (n0 n:Nat) (us:Us):(t:T2)->TV->Option (t.ty×Us)
 | .one t,v=>t.get H n0 n us v
 | .agg l,.agg vs=>Qf H n0 n l us vs
 |_,_=>none
def getEnv (H:GH) (n0 n:Nat) (L:ID):(l:List (Nat×T2))->Us->Option (AJ l×Us)
 | [],us=>some ((),us)
 |(k,t)::r,us=>match t.get H n0 n us (eX L k) with
  |some (x,us)=>match getEnv H n0 n L r us with
   |some (y,us)=>some ((x,y),us)
   |none=>none
  |none=>none
def wH:Option Code->Option Code->Bool
 |none,none=>true
 |some .ret,some .ret=>true
 |some (.exit a),some (.exit b)=>Nat.beq a b
 |_,_=>false
def OT.get (H:GH) (n0 n:Nat) (us:Us):(t:OT)->bL->Option (t.ty×Us)
 | .cells et l w,.cells et' cs w'=>bif Nat.beq et et' &&(bif w then w' else !w') then Qf H n0 n l us cs else none
 | .arr et e w fz em,.arr et' e' xs w' fz' em'=>bif Nat.beq et et' &&(bif w then w' else !w') &&(bif fz then fz' else !fz') &&em'.le em then
   match Sh.same e' e with
   |some ⟨h⟩=>some (fG h xs,us)
   |none=>none
  else none
 | .iter,.iter s p=>some ((s,p),us)
 | .nest et e no net ne em,.nest et' e' no' net' ne' xs em' ho=>bif Nat.beq et et' &&Nat.beq no no' &&Nat.beq net net' &&em'.le em &&ho.isNone then
   match Sh.same e' e,Sh.same ne' ne with
   |some ⟨h⟩,some _=>some (fG h xs,us)
   |_,_=>none
  else none
 | .map kt gk ge k e em,.map kt' gk' ge' k' e' xs em'=>bif Nat.beq kt kt' &&(bif gk then gk' else !gk') &&(bif ge then ge' else !ge') &&(bif em then em' else !em') then
   match Sh.same k' k,Sh.same e' e with
   |some ⟨h⟩,some ⟨h'⟩=>some (XI h h' xs,us)
   |_,_=>none
  else none
 | .gT kt gk k net ne,.gT kt' gk' k' net' ne' xs ho=>bif Nat.beq kt kt' &&(bif gk then gk' else !gk') &&Nat.beq net net' &&ho.isNone then
   match Sh.same k' k,Sh.same ne' ne with
   |some ⟨h⟩,some ⟨h'⟩=>some (W9 h h' xs,us)
   |_,_=>none
  else none
 | .loop bO st pd _ E _ _ body,.loop fid' st' pd' _ E' _ _ body'=>
  bif Nat.beq bO fid' &&(st==st') &&wH pd pd' &&Nat.beq (dL body) (dL body') then getEnv H n0 n E'.loc E us else none
 |_,_=>none
def qG (H:GH) (n0 n:Nat):(l:List (Nat×OT))->Us->Option (aF l×Us)
 | [],us=>some ((),us)
 |(id,t)::r,us=>bif Nat.blt id n0 then match H.get id with
  |some o=>match t.get H n0 n us o with
   |some (x,us)=>match qG H n0 n r us with
    |some (y,us)=>some ((x,y),us)
    |none=>none
   |none=>none
  |none=>none
  else none
def apart (jF:List (Nat×OT)):Us->Bool
 | []=>true
 |(_,some (id,_),_)::r=>jF.all (fun p=> !Nat.beq p.1 id) &&apart jF r
 |(_,none,_)::r=>apart jF r
def Tm.get (T:Tm) (E:GE) (H:GH):Option T.ty:=
 bif Nat.ble T.n0 H.n &&Nat.ble T.n0 T.n &&Nat.ble bU T.n0 then
  match getEnv H T.n0 T.n E.loc T.env [] with
  |some (x,us)=>match qG H T.n0 T.n T.jF us with
   |some (y,us)=>bif apart T.jF us then some (x,y) else none
   |none=>none
  |none=>none
 else none
def vP:TV->GH->GH
 | .all id,H=>oD H id
 |_,H=>H
def k9:List (Nat×T2)->ID->GH->ID×GH
 | [],L,H=>(L,H)
 |(k,.one (.aC _))::r,L,H=>match eX L k with
  | .all id=>match ti H (.all id) with
   |some (v,H)=>k9 r (nk L k v) H
   |none=>k9 r L H
  | .own id a b=>match ti H (.own id a b) with
   |some (v,H)=>k9 r (nk L k v) H
   |none=>k9 r L H
  |_=>k9 r L H
 |(k,.one (.gZ ..))::r,L,H=>k9 r L (vP (eX L k) H)
 |_::r,L,H=>k9 r L H
def rI:List T1->List TV->GH->GH
 | .gZ .. ::r,v::vs,H=>rI r vs (vP v H)
 |_::r,_::vs,H=>rI r vs H
 |_,_,H=>H
def nw:List (Nat×OT)->GH->GH
 | [],H=>H
 |(id,.nest ..)::r,H=>nw r (oD H id)
 |(id,.gT ..)::r,H=>nw r (Jz H id)
 |(id,.cells _ l _)::r,H=>match H.get id with
  |some (.cells _ cs _)=>nw r (rI l cs H)
  |_=>nw r H
 |_::r,H=>nw r H
def Tm.take (T:Tm) (E:GE) (H:GH):Option T.ty:=
 match k9 T.env E.loc (nw T.jF H) with
 |(L,H)=>T.get ⟨L,E.tmp⟩ H
end
section
variable {P:Program} {hint:Hint} {sh:cA} {O:Nat->Prop} {Γ Γ1 Γ':bc} {Pu Pu1:Nat->Prop} {H H1:GH} {I I1:IH}
def Loc.cut (off len:Nat) (l:Loc):Loc:=⟨l.pos.map fun p=>(p.1,p.2+off*l.sz),len,l.sz,l.tot⟩
theorem Loc.Dg (l:Loc):l.cut 0 l.len=l:=by
 obtain ⟨p,n,z,t⟩:=l;cases p<;>simp [Loc.cut]
structure QI (n0:Nat) (us:Us) (Γ Γ':bc):Prop where
 low:∀ id l,id<n0->Γ id=some l->Γ' id=some l
 us:∀ c s z,(c,s,z)∈us->(match s with
  |some (id,off,len)=>Γ' c=(Γ id).map (Loc.cut off len)
  |none=>Γ' c=some ⟨none,0,z,0⟩)
theorem QI.sub {n0:Nat} {us us':Us} (h:QI n0 us' Γ Γ') (hs:∀ p,p∈us->p∈us'):QI n0 us Γ Γ':=⟨h.low,fun c s z hm=>h.us c s z (hs _ hm)⟩
theorem L0 {n0:Nat} {us:Us} (hc:QI n0 us Γ Γ'):∀ {l:List TV} {l':List Value},JK n0 l=true->bK Γ Pu I l l'->bK Γ' Pu I l l':=by
 intro l
 induction l with
 |nil=>intro l' _ h;cases h;exact .nil
 |cons t l ih=>
  intro l' hi h;cases h with |cons a b=>
  cases t with
  |ptr id off=>
   replace hi:=af hi;cases a with |ptr x y=>exact .cons (.ptr (hc.low _ _ (cf hi.1) x) y) (ih hi.2 b)
  |mX id=>
   replace hi:=af hi;cases a with |mX x y=>exact .cons (.mX (hc.low _ _ (cf hi.1) x) y) (ih hi.2 b)
  |all id=>
   replace hi:=af hi;cases a with |all x y=>exact .cons (.all (hc.low _ _ (cf hi.1) x) y) (ih hi.2 b)
  |raw v=>cases a;exact .cons (.raw _) (ih hi b)
  |undef=>exact .cons (.undef _) (ih hi b)
  |_=>cases hi
theorem Pl {n0:Nat} {us:Us} (hc:QI n0 us Γ Γ') {t:TV} {v:Value} (hi:Vc n0 t=true) (h:GR Γ Pu I t v):GR Γ' Pu I t v:=by
 cases t with
 |ptr id off=>cases h with |ptr x y=>exact .ptr (hc.low _ _ (cf hi) x) y
 |mX id=>cases h with |mX x y=>exact .mX (hc.low _ _ (cf hi) x) y
 |all id=>cases h with |all x y=>exact .all (hc.low _ _ (cf hi) x) y
 |mp id=>cases h with |mp x y=>exact .mp (hc.low _ _ (cf hi) x) y
 |raw w=>cases h;exact .raw _
 |undef=>exact .undef _
 |fn f a c=>
  replace hi:=af hi;cases h with |fn x y=>exact .fn (L0 hc hi.1 x) (L0 hc hi.2 y)
 |_=>cases hi
theorem vV {v w:Value} (h:va v w=true):v=w:=by
 unfold va at h;split at h<;>first |rfl |cases h
theorem sJ:∀ {l k:List TV} {l':List Value},gQ l k=true->bK Γ Pu I k l'->bK Γ Pu I l l':=by
 intro l
 induction l with
 |nil=>intro k l' h hr;cases k with
  |nil=>exact hr
  |cons=>cases h
 |cons t l ih=>
  intro k l' h hr;cases k with
  |nil=>
   unfold gQ at h;split at h
   all_goals first
    |(rename_i h1;cases h1;done)
    |(rename_i h1 _;cases h1;done)
    |(cases h;done)
  |cons u k=>
   cases hr with |cons a b=>
   unfold gQ at h;split at h
   ·rename_i h1 _;cases h1
   ·rename_i h1 h2;cases h1;cases h2
    replace h:=af h;obtain ⟨h,h3⟩:=h;replace h:=af h;rw [beq_true h.1,beq_true h.2];exact .cons a (ih h3 b)
   ·rename_i h1 h2;cases h1;cases h2
    replace h:=af h;rw [beq_true h.1];exact .cons a (ih h.2 b)
   ·rename_i h1 h2;cases h1;cases h2
    replace h:=af h;rw [vV h.1];exact .cons a (ih h.2 b)
   ·cases h
theorem oa {t u:TV} {v:Value} (h:qp t u=true) (hr:GR Γ Pu I u v):GR Γ Pu I t v:=by
 unfold qp at h;split at h
 ·exact .undef _
 ·replace h:=af h
  rw [beq_true h.1,beq_true h.2];exact hr
 ·rw [beq_true h];exact hr
 ·rw [vV h];exact hr
 ·rw [beq_true h];exact hr
 ·rw [beq_true h];exact hr
 ·replace h:=af h;obtain ⟨h,h3⟩:=h
  replace h:=af h;obtain ⟨h1,h2⟩:=h;rw [beq_true h1];cases hr with |fn a b=>exact .fn (sJ h2 a) (sJ h3 b)
 ·cases h
def jo (P:Program) (hint:Hint) (Γ Γ':bc) (Pu:Nat->Prop) (I:IH) (us:Us) (H:GH) (N:Ae):Prop:=
 ∀ c o,(c,o)∈N->∃ l s z,Γ' c=some l/\OR P hint Γ' Pu I l o/\o.dh=true/\(c,s,z)∈us/\(match s with
  |some (id,_)=>∃ o',H.get id=some o'/\o'.dh=true/\∀ l0 b,Γ id=some l0->o.has I l b->o'.has I l0 b
  |none=>l.pos=none)
theorem jo.nil {us:Us}:jo P hint Γ Γ' Pu I us H []:=fun c o h=>by cases h
theorem jo.app {us:Us} {A B:Ae} (h:jo P hint Γ Γ' Pu I us H A) (k:jo P hint Γ Γ' Pu I us H B):jo P hint Γ Γ' Pu I us H (A++B):=fun c o hm=>by
 rcases List.mem_append.1 hm with x |x
 ·exact h c o x
 ·exact k c o x
structure ik (n0 n:Nat) (us:Us):Prop where
 c:∀ p∈us,n0<=p.1/\p.1<n
 cc:us.Pairwise fun p q=>p.1≠q.1
 ii:us.Pairwise fun p q=>∀ a b,p.2.1=some a->q.2.1=some b->a.1≠b.1
theorem ik.nil {n0 n:Nat}:ik n0 n []:=⟨(fun p h=>by cases h),List.Pairwise.nil,List.Pairwise.nil⟩
theorem A9 {c:Nat}:∀ {us:Us},BZ c us=true->∀ p∈us,c≠p.1:=by
 intro us
 induction us with
 |nil=>intro _ p h;cases h
 |cons q us ih=>
  intro h p hp;obtain ⟨c',s,z⟩:=q;replace h:=af h;rcases List.mem_cons.1 hp with rfl |hp
  ·intro e
   have:=h.1;rw [show c=c' from e,Nat.beq_refl] at this;cases this
  ·exact ih h.2 p hp
theorem zI {id:Nat}:∀ {us:Us},yn id us=true->∀ p∈us,∀ b,p.2.1=some b->id≠b.1:=by
 intro us
 induction us with
 |nil=>intro _ p h;cases h
 |cons q us ih=>
  intro h p hp b hb;obtain ⟨c',s,z⟩:=q;cases s with
  |some id'=>
   obtain ⟨id',q'⟩:=id';replace h:=af h;rcases List.mem_cons.1 hp with rfl |hp
   ·cases hb
    intro e;have:=h.1;rw [show id=id' from e,Nat.beq_refl] at this;cases this
   ·exact ih h.2 p hp b hb
  |none=>
   rcases List.mem_cons.1 hp with rfl |hp
   ·cases hb
   ·exact ih h p hp b hb
theorem ik.cons {n0 n c:Nat} {s:Option (Nat×Nat×Nat)} {z:Nat} {us:Us} (h:ik n0 n us) (h1:n0<=c) (h2:c<n) (h3:∀ p∈us,c≠p.1) (h4:∀ p∈us,∀ a b,s=some a->p.2.1=some b->a.1≠b.1):ik n0 n ((c,s,z)::us):=
 ⟨fun p hp=>by
  rcases List.mem_cons.1 hp with rfl |hp
  ·exact ⟨h1,h2⟩
  ·exact h.c p hp,List.Pairwise.cons h3 h.cc,List.Pairwise.cons (fun p hp a b x y=>h4 p hp a b x y) h.ii⟩
theorem ka {α:Type} {o:Option (α×List TV)} {x:α} (h:Il o=some x):o=some (x,[]):=by
 unfold Il at h;split at h
 ·cases h;rfl
 ·cases h
structure tN (P:Program) (hint:Hint) (n0 n:Nat) (Γ:bc) (Pu:Nat->Prop) (I:IH) (H:GH) (us us':Us) (q:bc->Prop) (N:Ae):Prop where
 sub:∀ p,p∈us->p∈us'
 ok:ik n0 n us'
 r9:∀ Γ',QI n0 us' Γ Γ'->q Γ'/\jo P hint Γ Γ' Pu I us' H N
theorem OR.cut {l:Loc} {et:TypeId} {e:Sh} {xs:List e.ty} {em em':Em} (ho:OR P hint Γ Pu I l (.arr et e xs true false em)) {off len:Nat} (hle:off+len<=xs.length) (hem:(bif em.si then Em.any.le em' else Em.no.le em')=true):
  OR P hint Γ Pu I (l.cut off len) (.arr et e ((xs.drop off).take len) true false em'):=by
 obtain ⟨o1,o2,o3,o4⟩:=ho;have hl:((xs.drop off).take len).length=len:=by simp;omega
 refine ⟨hl.symm,o2,o3,?_⟩;rcases o4 with ⟨hp,hx,hne⟩ |⟨b,o,vs,f,ex,sd,hp,he,hg,ht,hbl,hrows,hw,hu⟩
 ·refine .inl ⟨by simp [Loc.cut,hp],by simp [hx],?_⟩
  cases em<;>cases em'<;>first |exact absurd rfl hne |(cases hem;done) |simp
 ·refine .inr ⟨b,o+off*l.sz,vs,f,ex,sd,by simp [Loc.cut,hp],?_,hg,ht,?_,fun i x hi=>?_,fun h=>?_,fun h=>by cases h⟩
  ·cases em<;>cases em'<;>first |(cases hem;done) |(intro h;cases h;done)
  ·rw [hl,o2,Nat.add_assoc,←zag]
   have:=Nat.mul_le_mul_right e.sz hle;omega
  ·rw [List.getElem?_take] at hi
   split at hi
   ·rw [List.getElem?_drop] at hi
    have:=hrows (off+i) x hi;rw [o2,Nat.add_assoc,←zag];exact this
   ·cases hi
  ·obtain ⟨w1,w2,w3,w4⟩:=hw h
   have:=w4 rfl;exact ⟨w1,w2,by omega,fun _=>by omega⟩
theorem fT.cut {l:Loc} {off len:Nat} {v:Value} (h:fT l off len v):fT (l.cut off len) 0 (l.cut off len).len v:=by
 unfold fT at h ⊢;split at h
 ·rename_i hp;simp only [Loc.cut,hp,Option.map_none];exact h
 ·rename_i b o hp
  simp only [Loc.cut,hp,Option.map_some,Nat.zero_mul,Nat.add_zero];exact h
theorem OR.le {l:Loc} {et:TypeId} {e:Sh} {xs:List e.ty} {w fz:Bool} {em em':Em} (hle:em.le em'=true) (ho:OR P hint Γ Pu I l (.arr et e xs w fz em)):OR P hint Γ Pu I l (.arr et e xs w fz em'):=by
 obtain ⟨o1,o2,o3,o4⟩:=ho;refine ⟨o1,o2,o3,?_⟩;rcases o4 with ⟨hp,hx,hne⟩ |⟨b,o,vs,f,ex,sd,hp,he,h⟩
 ·refine .inl ⟨hp,hx,?_⟩
  cases em<;>cases em'<;>first |exact absurd rfl hne |(cases hle;done) |simp
 ·refine .inr ⟨b,o,vs,f,ex,sd,hp,?_,h⟩
  cases em<;>cases em'<;>first |(cases hle;done) |exact he |(intro h;cases h;done)
theorem Hl (hs:aw P hint sh Γ Pu H I) {et:TypeId} {e:Sh} {em:Em} {t:TV} {v:Value} {s:Option (Nat×Nat×Nat)} {xs:List e.ty} (h:OK H et e em t=some (s,xs)) (hr:GR Γ Pu I t v):
  (s=none/\xs= []/\v= .slice none 0 0/\em≠ .no)∨∃ id off len l o,s=some (id,off,len)/\Γ id=some l/\H.get id=some o/\o.dh=true/\OR P hint Γ Pu I (l.cut off len) (.arr et e xs true false em)/\fT (l.cut off len) 0 (l.cut off len).len v:=by
 unfold OK at h;split at h
 ·cases hr
  obtain ⟨h1,h2⟩:=ae h;cases h2;exact .inl ⟨rfl,rfl,rfl,by cases em<;>first |(cases h1;done) |simp⟩
 ·rename_i id
  cases hr with |all hl hv=>
  split at h
  ·rename_i et' e' xs' em' hg
   replace h:=ae h;obtain ⟨hb,h⟩:=h;replace hb:=af hb;obtain ⟨hb1,hb2⟩:=hb;have he:=beq_true hb1;subst he;split at h
   ·rename_i hh _
    subst hh;cases h;obtain ⟨l',hl',ho⟩:=hs.obj _ _ hg;cases hl.symm.trans hl';have h1:List.length xs'=Loc.len _:=ho.1.symm;refine .inr ⟨id,0,_,_,_,rfl,hl,hg,rfl,?_,?_⟩
    ·rw [h1,Loc.Dg];exact ho.le hb2
    ·rw [h1,Loc.Dg];exact hv
   ·cases h
  ·cases h
 ·rename_i id off len
  cases hr with |own hl hle hv=>
  split at h
  ·rename_i et' e' xs' em' hg
   replace h:=ae h;obtain ⟨hb,h⟩:=h;replace hb:=af hb;obtain ⟨hb1,hb2⟩:=hb;have he:=beq_true hb1;subst he;split at h
   ·rename_i hh _
    subst hh;cases h;obtain ⟨l',hl',ho⟩:=hs.obj _ _ hg;cases hl.symm.trans hl';exact .inr ⟨id,off,len,_,_,rfl,hl,hg,rfl,ho.cut (by rw [←ho.1];exact hle) hb2,hv.cut⟩
   ·cases h
  ·cases h
 ·cases h
def TI:TV->Bool
 | .int _ _ | .byte _ | .bool _ | .str _ | .aC _ _ _ _ | .undef=>true
 |_=>false
theorem bK.VX:∀ {l:List TV} {vs:List Value},l.all TI=true->bK Γ Pu I l vs->bK Γ' Pu I l vs:=by
 intro l
 induction l with
 |nil=>intro vs _ h;cases h;exact .nil
 |cons t r ih=>
  intro vs hn h;simp only [List.all_cons,zae] at hn;cases h with |cons a b=>
  refine .cons ?_ (ih hn.2 b);cases t with
  |int k n=>cases a;exact .int k n
  |byte c=>cases a;exact .byte c
  |bool c=>cases a;exact .bool c
  |str c=>cases a;exact .str c
  |aC e xs nl cl=>cases a with |aC x y z=>exact .aC x y z
  |undef=>exact .undef _
  |_=>cases hn.1
theorem Rb:∀ {e:Sh} (x:e.ty),(e.de x).all TI=true:=by
 intro e
 induction e with
 |cons a b iha ihb=>intro x;simp only [Sh.de,List.all_append,zae];exact ⟨iha x.1,ihb x.2⟩
 |_=>intro x;rfl
theorem Ro {l:List TV} (h:l.all TI=true):∀ n,(l.set n .undef).all TI=true:=by
 induction l with
 |nil=>intro n;rfl
 |cons t r ih=>
  simp only [List.all_cons,zae] at h;intro n;cases n with
  |zero=>simp only [List.set_cons_zero,List.all_cons,zae];exact ⟨rfl,h.2⟩
  |succ n=>simp only [List.set_cons_succ,List.all_cons,zae];exact ⟨h.1,ih h.2 n⟩
theorem NN {e:Sh} {x:e.ty} {no:Nat} {vs:List Value} (h:bK Γ Pu I ((e.de x).set no .undef) vs):bK Γ' Pu I ((e.de x).set no .undef) vs:=h.VX (Ro (Rb x) no)
theorem bH.VX {l:Loc} {et:TypeId} {e:Sh} {no:Nat} {net:TypeId} {ne:Sh} {xs:List e.ty} {em:Em} {ho:Option (Nat×Nat×e.ty)} (h:bH Γ Pu I l et e no net ne xs em ho) (hn:ho=none):bH Γ' Pu I l et e no net ne xs em ho:=by
 obtain ⟨h1,h2,h3,h4,h5 |⟨b0,o,vs,f,ex,hp,he,hg,ht,hl,hro,hf,hx,hy,hh,hd,hself⟩⟩:=h
 ·exact ⟨h1,h2,h3,h4,.inl h5⟩
 ·exact ⟨h1,h2,h3,h4,.inr ⟨b0,o,vs,f,ex,hp,he,hg,ht,hl,hro,hf,fun i x hi=>NN (hx i x hi),hy,(fun i n x h=>by rw [hn] at h;cases h),hd,hself⟩⟩
theorem jO.VX {l:Loc} {kt:TypeId} {gk:Bool} {k:Sh} {net:TypeId} {ne:Sh} {xs:List (k.ty×List ne.ty)} (h:jO P Γ Pu I l kt gk k net ne xs none):jO P Γ' Pu I l kt gk k net ne xs none:=by
 obtain ⟨h1,h2,h3,b0,es,ck,hp,hro,hgb,hlen,hkk,hx,hh,hd⟩:=h;exact ⟨h1,h2,h3,b0,es,ck,hp,hro,hgb,hlen,hkk,hx,fun y m hc=>(by cases hc),hd⟩
theorem bH.le {l:Loc} {et:TypeId} {e:Sh} {no:Nat} {net:TypeId} {ne:Sh} {xs:List e.ty} {em em':Em} {ho:Option (Nat×Nat×e.ty)} (hle:em.le em'=true) (h:bH Γ Pu I l et e no net ne xs em ho):bH Γ Pu I l et e no net ne xs em' ho:=by
 obtain ⟨h1,h2,h3,h4,h5 |⟨b0,o,vs,f,ex,hp,he,h⟩⟩:=h
 ·refine ⟨h1,h2,h3,h4,.inl ⟨h5.1,h5.2.1,?_,h5.2.2.2⟩⟩
  have:=h5.2.2.1;cases em<;>cases em'<;>first |exact absurd rfl this |(cases hle;done) |simp
 ·refine ⟨h1,h2,h3,h4,.inr ⟨b0,o,vs,f,ex,hp,?_,h⟩⟩
  cases em<;>cases em'<;>first |(cases hle;done) |exact he |(intro h;cases h;done)
theorem Al (hs:aw P hint sh Γ Pu H I) {et:TypeId} {e:Sh} {no:Nat} {net:TypeId} {ne:Sh} {em:Em} {t:TV} {v:Value} {s:Option (Nat×Nat×Nat)} {xs:List e.ty} (h:Je H et e no net ne em t=some (s,xs)) (hr:GR Γ Pu I t v):
  (s=none/\xs= []/\v= .slice none 0 0/\em≠ .no/\HW e no ne=true)∨∃ id l o,s=some (id,0,l.len)/\Γ id=some l/\H.get id=some o/\o.dh=true/\bH Γ Pu I l et e no net ne xs em none/\fT l 0 l.len v/\∀ b,bL.has I l b (.nest et e no net ne xs em none)->o.has I l b:=by
 unfold Je at h;split at h
 ·cases hr
  obtain ⟨h1,h2⟩:=ae h;replace h1:=af h1;cases h2;exact .inl ⟨rfl,rfl,rfl,by have:=h1.1;cases em<;>first |(cases this;done) |simp,h1.2⟩
 ·rename_i id
  cases hr with |all hl hv=>
  split at h
  ·rename_i et' e' no' net' ne' xs' em' hg
   replace h:=ae h;obtain ⟨hb,h⟩:=h;replace hb:=af hb;obtain ⟨hb,hb4⟩:=hb;replace hb:=af hb;obtain ⟨hb,hb3⟩:=hb;replace hb:=af hb;obtain ⟨hb1,hb2⟩:=hb;have q1:=beq_true hb1;have q2:=beq_true hb2;have q3:=beq_true hb3;subst q1 q2 q3;split at h
   ·rename_i hh h2 _ hs2
    subst hh;obtain ⟨h2⟩:=h2;subst h2;cases h;obtain ⟨l',hl',ho⟩:=hs.obj _ _ hg;cases hl.symm.trans hl';have ho':bH Γ Pu I _ et e' no net ne' xs' em' none:=ho;have h1:=ho'.1;exact .inr ⟨id,_,_,by rw [h1],hl,hg,rfl,ho'.le hb4,hv,fun b h=>h⟩
   ·cases h
  ·cases h
 ·cases h
theorem T1.gX (hs:aw P hint sh Γ Pu H I) {n0 n:Nat} {us us':Us} (hu:ik n0 n us) {t:T1} {x:t.ty} {v:TV} {v':Value} (h:t.get H n0 n us v=some (x,us')) (hr:GR Γ Pu I v v'):
  tN P hint n0 n Γ Pu I H us us' (fun Γ'=>GR Γ' Pu I (t.put x).1 v') (t.put x).2:=by
 have same:∀ {t':T1} {y:t'.ty},us'=us->(∀ Γ',QI n0 us' Γ Γ'->GR Γ' Pu I (t'.put y).1 v')->(t'.put y).2= []->tN P hint n0 n Γ Pu I H us us' (fun Γ'=>GR Γ' Pu I (t'.put y).1 v') (t'.put y).2:=by
  intro t' y he h1 h2;subst he;rw [h2];exact ⟨fun _ h=>h,hu,fun Γ' hc=>⟨h1 Γ' hc,jo.nil⟩⟩
 cases t with
 |int k=>
  simp only [T1.get] at h;split at h
  ·rename_i y hy
   cases h;have h1:=ka hy;have h2:=Sh.Au (s:= .int k) (Γ:=Γ) (Pu:=Pu) (I:=I) h1 (.cons hr .nil);obtain ⟨u,w,e1,e2,e3⟩:=h2;cases e3;rw [List.append_nil] at e1;subst e1;unfold cy at e2;cases e2;exact same rfl (fun Γ' _=> .int k _) rfl
  ·cases h
 |byte=>
  simp only [T1.get] at h;split at h
  ·rename_i y hy
   cases h;have h1:=ka hy;have h2:=Sh.Au (s:= .byte) (Γ:=Γ) (Pu:=Pu) (I:=I) h1 (.cons hr .nil);obtain ⟨u,w,e1,e2,e3⟩:=h2;cases e3;rw [List.append_nil] at e1;subst e1;unfold cy at e2;cases e2;exact same rfl (fun Γ' _=> .byte _) rfl
  ·cases h
 |bool=>
  simp only [T1.get] at h;split at h
  ·rename_i y hy
   cases h;have h1:=ka hy;have h2:=Sh.Au (s:= .bool) (Γ:=Γ) (Pu:=Pu) (I:=I) h1 (.cons hr .nil);obtain ⟨u,w,e1,e2,e3⟩:=h2;cases e3;rw [List.append_nil] at e1;subst e1;unfold cy at e2;cases e2;exact same rfl (fun Γ' _=> .bool _) rfl
  ·cases h
 |str=>
  simp only [T1.get] at h;split at h
  ·rename_i y hy
   cases h;have h1:=ka hy;have h2:=Sh.Au (s:= .str) (Γ:=Γ) (Pu:=Pu) (I:=I) h1 (.cons hr .nil);obtain ⟨u,w,e1,e2,e3⟩:=h2;cases e3;rw [List.append_nil] at e1;subst e1;unfold cy at e2;cases e2;exact same rfl (fun Γ' _=> .str _) rfl
  ·cases h
 |aC e=>
  simp only [T1.get] at h;split at h
  ·rename_i y hy
   cases h;have h1:=ka hy;have h2:=Gm (Γ:=Γ) (Pu:=Pu) (I:=I) h1 (.cons hr .nil);obtain ⟨u,w,e1,e2,e3⟩:=h2;cases e3;rw [List.append_nil] at e1;subst e1;exact same rfl (fun Γ' _=> .aC e2 (fun c hc=>by cases hc) (fun hc=>by cases hc)) rfl
  ·cases h
 |fix t=>
  simp only [T1.get] at h;replace h:=ae h;obtain ⟨hb,h⟩:=h;replace hb:=af hb;cases h;exact same rfl (fun Γ' hc=>Pl hc hb.2 (oa hb.1 hr)) rfl
 |all c et e em=>
  simp only [T1.get] at h;replace h:=ae h;obtain ⟨hb,h⟩:=h;replace hb:=af hb;obtain ⟨hb,hb3⟩:=hb;replace hb:=af hb;obtain ⟨hb1,hb2⟩:=hb;have c1:=aB hb1;have c2:=cf hb2;have c3:=A9 hb3;split at h
  ·rename_i xs ha
   cases h;rcases Hl hs ha hr with ⟨_,rfl,rfl,hne⟩ |⟨_,_,_,_,_,h1,_⟩
   ·refine ⟨fun p hp=>zak _ hp,hu.cons c1 c2 c3 (fun p hp a b hh=>by cases hh),fun Γ' hc=>?_⟩
    have hg:=hc.us c none e.sz List.mem_cons_self;simp only at hg;refine ⟨.all hg ⟨rfl,rfl⟩,fun c' o hm=>?_⟩;simp only [T1.put,List.mem_singleton,Prod.mk.injEq] at hm;obtain ⟨rfl,rfl⟩:=hm;exact ⟨_,none,e.sz,hg,⟨rfl,rfl,e.dU,.inl ⟨rfl,rfl,hne⟩⟩,rfl,List.mem_cons_self,rfl⟩
   ·cases h1
  ·rename_i id q xs ha
   replace h:=ae h;obtain ⟨hb,h⟩:=h;cases h;rcases Hl hs ha hr with ⟨h1,_⟩ |⟨id',off,len,l,ob,h1,h2,h3,h6,h4,h5⟩
   ·cases h1
   ·cases h1
    refine ⟨fun p hp=>zak _ hp,hu.cons c1 c2 c3 (fun p hp a b hh hk=>by cases hh;exact zI hb p hp b hk),fun Γ' hc=>?_⟩;have hg:=hc.us c (some (id,off,len)) e.sz List.mem_cons_self;simp only at hg;rw [h2] at hg;refine ⟨.all hg h5,fun c' o hm=>?_⟩;simp only [T1.put,List.mem_singleton,Prod.mk.injEq] at hm;obtain ⟨rfl,rfl⟩:=hm;have hk:cH Γ Pu I Γ' Pu I->OR P hint Γ' Pu I (l.cut off len) (.arr et e x true false em):=fun hk=>h4.mono hk fun _ _=>rfl
    exact ⟨l.cut off len,some (id,off,len),e.sz,hg,h4,rfl,List.mem_cons_self,_,h3,h6,fun _ _ _ h=>absurd h (fun h=>h)⟩
  ·cases h
 |gZ c et e no net ne em=>
  simp only [T1.get] at h;replace h:=ae h;obtain ⟨hb,h⟩:=h;replace hb:=af hb;obtain ⟨hb,hb3⟩:=hb;replace hb:=af hb;obtain ⟨hb1,hb2⟩:=hb;have c1:=aB hb1;have c2:=cf hb2;have c3:=A9 hb3;split at h
  ·rename_i xs ha
   cases h;rcases Al hs ha hr with ⟨_,rfl,rfl,hne,hno⟩ |⟨_,_,_,h1,_⟩
   ·refine ⟨fun p hp=>zak _ hp,hu.cons c1 c2 c3 (fun p hp a b hh=>by cases hh),fun Γ' hc=>?_⟩
    have hg:=hc.us c none e.sz List.mem_cons_self;simp only at hg;refine ⟨.all hg ⟨rfl,rfl⟩,fun c' o hm=>?_⟩;simp only [T1.put,List.mem_singleton,Prod.mk.injEq] at hm;obtain ⟨rfl,rfl⟩:=hm;exact ⟨_,none,e.sz,hg,⟨rfl,rfl,e.dU,hno,.inl ⟨rfl,rfl,hne,rfl⟩⟩,rfl,List.mem_cons_self,rfl⟩
   ·cases h1
  ·rename_i id q xs ha
   replace h:=ae h;obtain ⟨hb,h⟩:=h;cases h;rcases Al hs ha hr with ⟨h1,_⟩ |⟨id',l,ob,h1,h2,h3,h6,h4,h5,h7⟩
   ·cases h1
   ·cases h1
    refine ⟨fun p hp=>zak _ hp,hu.cons c1 c2 c3 (fun p hp a b hh hk=>by cases hh;exact zI hb p hp b hk),fun Γ' hc=>?_⟩;have hg:=hc.us c (some (id,0,l.len)) e.sz List.mem_cons_self;simp only at hg;rw [h2,Option.map_some,Loc.Dg] at hg;refine ⟨.all hg h5,fun c' o hm=>?_⟩;simp only [T1.put,List.mem_singleton,Prod.mk.injEq] at hm;obtain ⟨rfl,rfl⟩:=hm;refine ⟨l,some (id,0,l.len),e.sz,hg,?_,rfl,List.mem_cons_self,_,h3,h6,fun l0 b h8 h9=>?_⟩
    ·exact bH.VX h4 rfl
    ·cases h2.symm.trans h8
     exact h7 b h9
  ·cases h
theorem tN.trans {n0 n:Nat} {us us1 us2:Us} {p q:bc->Prop} {A B:Ae} (h:tN P hint n0 n Γ Pu I H us us1 p A) (k:tN P hint n0 n Γ Pu I H us1 us2 q B):tN P hint n0 n Γ Pu I H us us2 (fun Γ'=>p Γ'/\q Γ') (A++B):=
 ⟨fun x hx=>k.sub x (h.sub x hx),k.ok,fun Γ' hc=>by
  obtain ⟨a,b⟩:=h.r9 Γ' (hc.sub k.sub);obtain ⟨c,d⟩:=k.r9 Γ' hc;refine ⟨⟨a,c⟩,jo.app (fun c o hm=>?_) d⟩;obtain ⟨l,s,z,x1,x2,x3,x4,x5⟩:=b c o hm;exact ⟨l,s,z,x1,x2,x3,k.sub _ x4,x5⟩⟩
theorem tN.imp {n0 n:Nat} {us us1:Us} {p q:bc->Prop} {A:Ae} (h:tN P hint n0 n Γ Pu I H us us1 p A) (hi:∀ Γ',p Γ'->q Γ'):tN P hint n0 n Γ Pu I H us us1 q A:=
 ⟨h.sub,h.ok,fun Γ' hc=>⟨hi Γ' (h.r9 Γ' hc).1,(h.r9 Γ' hc).2⟩⟩
theorem tN.none {n0 n:Nat} {us:Us} {p:bc->Prop} (hu:ik n0 n us) (hp:∀ Γ',p Γ'):tN P hint n0 n Γ Pu I H us us p []:=
 ⟨fun _ h=>h,hu,fun Γ' _=>⟨hp Γ',jo.nil⟩⟩
theorem LC (hs:aw P hint sh Γ Pu H I) {n0 n:Nat}:∀ {l:List T1} {us us':Us} {x:UX l} {vs:List TV} {vs':List Value},ik n0 n us->Qf H n0 n l us vs=some (x,us')->bK Γ Pu I vs vs'->
  tN P hint n0 n Γ Pu I H us us' (fun Γ'=>bK Γ' Pu I (yX l x).1 vs') (yX l x).2:=by
 intro l
 induction l with
 |nil=>
  intro us us' x vs vs' hu h hr;cases vs with
  |nil=>cases h;cases hr;exact tN.none hu fun _=> .nil
  |cons=>cases h
 |cons t r ih=>
  intro us us' x vs vs' hu h hr;cases hr with
  |nil=>cases h
  |cons a b=>
   simp only [Qf] at h;split at h
   ·rename_i y us1 h1
    split at h
    ·rename_i z us2 h2
     cases h;have g1:=T1.gX hs hu h1 a;have g2:=ih g1.ok h2 b;exact (g1.trans g2).imp fun Γ' hh=> .cons hh.1 hh.2
    ·cases h
   ·cases h
theorem T2.gX (hs:aw P hint sh Γ Pu H I) {n0 n:Nat} {us us':Us} (hu:ik n0 n us) {t:T2} {x:t.ty} {v:TV} {v':Value} (h:t.get H n0 n us v=some (x,us')) (hr:GR Γ Pu I v v'):
  tN P hint n0 n Γ Pu I H us us' (fun Γ'=>GR Γ' Pu I (t.put x).1 v') (t.put x).2:=by
 cases t with
 |one t=>exact T1.gX hs hu h hr
 |agg l=>
  cases hr with
  |agg hr=>exact (LC hs hu h hr).imp fun Γ' hh=> .agg hh
  |_=>cases h
theorem BH (hs:aw P hint sh Γ Pu H I) {n0 n:Nat} {L:ID} {L':AL} (hL:∀ t,GR Γ Pu I (eX L t) (lk L' t)):∀ {l:List (Nat×T2)} {us us':Us} {x:AJ l},ik n0 n us->getEnv H n0 n L l us=some (x,us')->
  tN P hint n0 n Γ Pu I H us us' (fun Γ'=>∀ t,GR Γ' Pu I (eX (mA l x).1 t) (lk L' t)) (mA l x).2:=by
 intro l
 induction l with
 |nil=>
  intro us us' x hu h;unfold getEnv at h;cases h;exact tN.none hu fun _ t=> .undef _
 |cons p r ih=>
  intro us us' x hu h;obtain ⟨k,t⟩:=p;simp only [getEnv] at h;split at h
  ·rename_i y us1 h1
   split at h
   ·rename_i z us2 h2
    cases h;have g1:=T2.gX hs hu h1 (hL k);have g2:=ih g1.ok h2;refine (g1.trans g2).imp fun Γ' hh t'=>?_
    show GR Γ' Pu I (bif Nat.beq k t' then _ else _) _
    cases hb:Nat.beq k t' with
    |true=>rw [←Nat.eq_of_beq_eq_true hb];exact hh.1
    |false=>exact hh.2 t'
   ·cases h
  ·cases h
def jJ (P:Program) (hint:Hint) (bO:Nat) (fi:FI) (ps:List Tmp) (dZ body:Code):Prop:=
 ∀ f qs asg' body' fi',Oj P hint bO fi' (.rangeFunc f qs asg' body')->dL body=dL body'->fi'=fi/\qs.toList=ps/\asg'=dZ/\body'=body
def OZ (P:Program) (hint:Hint):OT->Prop
 | .loop bO _ _ fi _ ps dZ body=>jJ P hint bO fi ps dZ body
 |_=>True
theorem Ee {a b:Option Code} (h:wH a b=true):a=b:=by
 unfold wH at h;split at h
 ·rfl
 ·rfl
 ·rw [beq_true h]
 ·cases h
theorem jl {a b:Bool} (h:(bif a then b else !b)=true):b=a:=by cases a<;>cases b<;>first |rfl |cases h
theorem OT.gX (hs:aw P hint sh Γ Pu H I) {n0 n:Nat} {us us':Us} (hu:ik n0 n us) {t:OT} {x:t.ty} {o:bL} {l:Loc} (hok:OZ P hint t) (h:t.get H n0 n us o=some (x,us')) (ho:OR P hint Γ Pu I l o):
  tN P hint n0 n Γ Pu I H us us' (fun Γ'=>OR P hint Γ' Pu I l (t.put x).1) (t.put x).2/\(t.put x).1.dh=o.dh/\∀ b,(t.put x).1.has I l b->o.has I l b:=by
 cases t with
 |cells et tl w=>
  cases o with
  |cells et' cs w'=>
   simp only [OT.get] at h;replace h:=ae h;obtain ⟨hb,h⟩:=h;replace hb:=af hb;have e1:=beq_true hb.1;have e2:=jl hb.2;subst e1 e2;obtain ⟨b,vs,fz,ex,sd,hp,hg,hr,hw,hpu⟩:=ho;exact ⟨(LC hs hu h hr).imp fun Γ' hh=>⟨b,vs,fz,ex,sd,hp,hg,hh,hw,hpu⟩,rfl,fun _ h=>False.elim h⟩
  |_=>cases h
 |arr et e w fz em=>
  cases o with
  |arr et' e' xs w' fz' em'=>
   simp only [OT.get] at h;replace h:=ae h;obtain ⟨hb,h⟩:=h;replace hb:=af hb;obtain ⟨hb,hb4⟩:=hb;replace hb:=af hb;obtain ⟨hb,hb3⟩:=hb;replace hb:=af hb;obtain ⟨hb1,hb2⟩:=hb;have e1:=beq_true hb1;have e2:=jl hb2;have e3:=jl hb3;subst e1 e2 e3;split at h
   ·rename_i hh _
    subst hh;cases h;exact ⟨tN.none hu fun Γ'=>OR.le hb4 ho,rfl,fun _ h=>False.elim h⟩
   ·cases h
  |_=>cases h
 |iter=>
  cases o with
  |iter s p=>
   simp only [OT.get] at h;cases h;exact ⟨tN.none hu fun Γ'=>ho,rfl,fun _ h=>False.elim h⟩
  |_=>cases h
 |nest et e no net ne em=>
  cases o with
  |nest et' e' no' net' ne' xs em' ho'=>
   simp only [OT.get] at h;replace h:=ae h;obtain ⟨hb,h⟩:=h;replace hb:=af hb;obtain ⟨hb,hb5⟩:=hb;replace hb:=af hb;obtain ⟨hb,hb4⟩:=hb;replace hb:=af hb;obtain ⟨hb,hb3⟩:=hb;replace hb:=af hb;obtain ⟨hb1,hb2⟩:=hb;have q1:=beq_true hb1;have q2:=beq_true hb2;have q3:=beq_true hb3;subst q1 q2 q3;have q5:ho'=none:=by simpa using hb5
   subst q5;split at h
   ·rename_i hh h2 _ _
    subst hh;obtain ⟨h2⟩:=h2;subst h2;cases h;exact ⟨tN.none hu fun Γ'=>bH.VX (bH.le hb4 ho) rfl,rfl,fun b h=>h⟩
   ·cases h
  |_=>cases h
 |gT kt gk k net ne=>
  cases o with
  |gT kt' gk' k' net' ne' xs ho'=>
   simp only [OT.get] at h;replace h:=ae h;obtain ⟨hb,h⟩:=h;replace hb:=af hb;obtain ⟨hb,hb4⟩:=hb;replace hb:=af hb;obtain ⟨hb,hb3⟩:=hb;replace hb:=af hb;obtain ⟨hb1,hb2⟩:=hb;have q1:=beq_true hb1;have q2:=jl hb2;have q3:=beq_true hb3;subst q1 q2 q3;have q5:ho'=none:=by simpa using hb4
   subst q5;split at h
   ·rename_i h1 h2 _ _
    subst h1 h2;cases h;exact ⟨tN.none hu fun Γ'=>jO.VX ho,rfl,fun b h=>h⟩
   ·cases h
  |_=>cases h
 |map kt gk ge k e em=>
  cases o with
  |map kt' gk' ge' k' e' xs em'=>
   simp only [OT.get] at h;replace h:=ae h;obtain ⟨hb,h⟩:=h;replace hb:=af hb;obtain ⟨hb,hb3⟩:=hb;replace hb:=af hb;obtain ⟨hb,hb2⟩:=hb;replace hb:=af hb;obtain ⟨hb0,hb1⟩:=hb;have e0:=beq_true hb0;have e1:=jl hb1;have e2:=jl hb2;have e3:=jl hb3;subst e0 e1 e2 e3;split at h
   ·rename_i h1 h2 _ _
    subst h1 h2;cases h;exact ⟨tN.none hu fun Γ'=>ho,rfl,fun _ h=>False.elim h⟩
   ·cases h
  |_=>cases h
 |loop bO st pd fi E ps dZ body=>
  cases o with
  |loop fid' st' pd' fi' E' ps' asg' body'=>
   simp only [OT.get] at h;replace h:=ae h;obtain ⟨hb,h⟩:=h;replace hb:=af hb;obtain ⟨hb,hb4⟩:=hb;replace hb:=af hb;obtain ⟨hb,hb3⟩:=hb;replace hb:=af hb;obtain ⟨hb1,hb2⟩:=hb;have e1:=beq_true hb1;have e2:st=st':=by simpa using hb2
   have e3:=Ee hb3;have e4:=beq_true hb4;obtain ⟨b,F',hp,hro,hg,hE,f,qs,hin,hqs⟩:=ho;rw [←e1] at hin;obtain ⟨u1,u2,u3,u4⟩:=hok f qs asg' body' fi' hin e4;subst e1 e2 e3 u1 u3 u4;rw [u2] at hqs;subst hqs;exact ⟨(BH hs (fun t=>(hE t).1) hu h).imp fun Γ' hh=>⟨b,F',hp,hro,hg,fun t=>⟨hh t,.undef _⟩,f,qs,hin,u2.symm⟩,rfl,fun _ h=>False.elim h⟩
  |_=>cases h
theorem I6 (hs:aw P hint sh Γ Pu H I) {n0 n:Nat}:∀ {l:List (Nat×OT)} {us us':Us} {x:aF l},(∀ p∈l,OZ P hint p.2)->ik n0 n us->qG H n0 n l us=some (x,us')->
  tN P hint n0 n Γ Pu I H us us' (fun Γ'=>∀ id o,(id,o)∈(dX l x).1->id<n0/\(∃ p∈l,p.1=id)/\∃ lo o',Γ id=some lo/\OR P hint Γ' Pu I lo o/\H.get id=some o'/\o.dh=o'.dh/\∀ b,o.has I lo b->o'.has I lo b) (dX l x).2:=by
 intro l
 induction l with
 |nil=>
  intro us us' x _ hu h;unfold qG at h;cases h;exact tN.none hu fun _ id o hm=>by cases hm
 |cons p r ih=>
  intro us us' x hok hu h;obtain ⟨id,t⟩:=p;simp only [qG] at h;replace h:=ae h;obtain ⟨hb,h⟩:=h;split at h
  ·rename_i o hg
   split at h
   ·rename_i y us1 h1
    split at h
    ·rename_i z us2 h2
     cases h;obtain ⟨lo,hlo,ho⟩:=hs.obj id o hg;obtain ⟨g1,hm,hhas⟩:=OT.gX hs hu (hok _ List.mem_cons_self) h1 ho;have g2:=ih (fun p hp=>hok p (zak _ hp)) g1.ok h2;refine (g1.trans g2).imp fun Γ' hh id' o' hmem=>?_
     rcases List.mem_cons.1 hmem with hq |hmem
     ·cases hq
      exact ⟨cf hb,⟨_,List.mem_cons_self,rfl⟩,lo,o,hlo,hh.1,hg,hm,hhas⟩
     ·obtain ⟨a1,⟨q,hq1,hq2⟩,a3⟩:=hh.2 id' o' hmem
      exact ⟨a1,⟨q,zak _ hq1,hq2⟩,a3⟩
    ·cases h
   ·cases h
  ·cases h
theorem iA {ck:Nat}:∀ {N:Ae} {id:Nat} {s:Nat} {o:bL},(P6 ck N).lA id=some (s,o)->s=ck/\(id,o)∈N:=by
 intro N
 induction N with
 |nil=>intro id s o h;cases h
 |cons p N ih=>
  intro id s o h;obtain ⟨k,o'⟩:=p;simp only [P6,Tr.fN,Tr.eV] at h;have hp:=Tr.ah (P6 ck N) k (some (ck,o')) id;unfold Tr.put at hp;rw [hp] at h;split at h
  ·rename_i e;subst e;cases h;exact ⟨rfl,List.mem_cons_self⟩
  ·rw [←Tr.fN] at h
   obtain ⟨a,b⟩:=ih h;exact ⟨a,zak _ b⟩
noncomputable def mG (n0:Nat) (us:Us) (Γ:bc):bc:=fun k=>if k<n0 then Γ k else
 match us.find? (fun p=>Nat.beq p.1 k) with
 |some (_,some (id,off,len),_)=>(Γ id).map (Loc.cut off len)
 |some (_,none,z)=>some ⟨none,0,z,0⟩
 |none=>none
theorem L2 {n0 n:Nat}:∀ {us:Us},ik n0 n us->∀ {c:Nat} {s:Option (Nat×Nat×Nat)} {z:Nat},(c,s,z)∈us->us.find? (fun p=>Nat.beq p.1 c)=some (c,s,z):=by
 intro us
 induction us with
 |nil=>intro _ c s z h;cases h
 |cons p us ih=>
  intro hu c s z hm;have hcc:=hu.cc;rw [List.pairwise_cons] at hcc;rcases List.mem_cons.1 hm with rfl |hm
  ·simp
  ·have hne:p.1≠c:=hcc.1 _ hm
   rw [List.find?_cons,fY hne];have hii:=hu.ii;rw [List.pairwise_cons] at hii;exact ih ⟨fun q hq=>hu.c q (zak _ hq),hcc.2,hii.2⟩ hm
theorem Vz {n0 n:Nat} {us:Us} (hu:ik n0 n us):QI n0 us Γ (mG n0 us Γ):=
 ⟨fun id l h hl=>by unfold mG;rw [if_pos h];exact hl,fun c s z hm=>by
  have h1:=(hu.c _ hm).1;have h2:=L2 hu hm;unfold mG;simp only at h1;rw [if_neg (by omega),h2];cases s with
  |none=>rfl
  |some q=>obtain ⟨id,off,len⟩:=q;rfl⟩
def Tm.ok (P:Program) (hint:Hint) (T:Tm):Prop:=∀ p∈T.jF,OZ P hint p.2
theorem GB {jF:List (Nat×OT)}:∀ {us:Us},apart jF us=true->∀ c id q z,(c,some (id,q),z)∈us->∀ p∈jF,p.1≠id:=by
 intro us
 induction us with
 |nil=>intro _ c id w z h;cases h
 |cons q us ih=>
  intro h c id w z hm p hp;obtain ⟨c',s,z'⟩:=q;cases s with
  |some id'=>
   obtain ⟨id',w'⟩:=id';replace h:=af h;rcases List.mem_cons.1 hm with hq |hm
   ·cases hq
    have:=List.all_eq_true.1 h.1 p hp;intro e;rw [e,Nat.beq_refl] at this;cases this
   ·exact ih h.2 c id w z hm p hp
  |none=>
   rcases List.mem_cons.1 hm with hq |hm
   ·cases hq
   ·exact ih h c id w z hm p hp
theorem Tm.gX (T:Tm) (hT:T.ok P hint) (hs:aw P hint sh Γ Pu H I) {E:GE} {E':En} (he:ER Γ Pu I E E') {x:T.ty} (h:T.get E H=some x):
  ∃ Γ',aw P hint sh Γ' Pu (T.H x) I/\ER Γ' Pu I (T.E x) E'/\(∀ id l,id<T.n0->Γ id=some l->Γ' id=some l)/\(∀ b,bx Γ' (T.H x) I b->bx Γ H I b)/\T.n0<=T.n:=by
 unfold Tm.get at h;replace h:=ae h;obtain ⟨hb,h⟩:=h;replace hb:=af hb;obtain ⟨hb,hb3⟩:=hb;replace hb:=af hb;obtain ⟨hb1,hb2⟩:=hb;have n1:=aB hb1;have n2:=aB hb2;have n3:=aB hb3;split at h
 ·rename_i xe us1 h1
  split at h
  ·rename_i xo us h2
   replace h:=ae h;obtain ⟨hap,h⟩:=h;cases h;have g1:=BH hs (fun t=>(he t).1) ik.nil h1;have g2:=I6 hs hT g1.ok h2;have hu:=g2.ok;have hcon:QI T.n0 us Γ (mG T.n0 us Γ):=Vz hu;obtain ⟨r1,q1⟩:=g1.r9 _ (hcon.sub g2.sub);obtain ⟨r2,q2⟩:=g2.r9 _ hcon
   have all:∀ id o,(T.H (xe,xo)).get id=some o->(id<T.n0/\∃ lo o',Γ id=some lo/\mG T.n0 us Γ id=some lo/\OR P hint (mG T.n0 us Γ) Pu I lo o/\H.get id=some o'/\o.dh=o'.dh/\(∀ b,o.has I lo b->o'.has I lo b)/\∃ p∈T.jF,p.1=id)∨
     (∃ l s z,mG T.n0 us Γ id=some l/\OR P hint (mG T.n0 us Γ) Pu I l o/\o.dh=true/\(id,s,z)∈us/\(match s with
      |some (id',_)=>∃ o',H.get id'=some o'/\o'.dh=true/\∀ l0 b,Γ id'=some l0->o.has I l b->o'.has I l0 b
      |none=>l.pos=none)):=by
    intro id o hg;unfold GH.get at hg;split at hg
    ·rename_i s' o' heq
     cases hg;obtain ⟨_,hm⟩:=iA heq;rcases List.mem_append.1 hm with hm |hm
     ·obtain ⟨l,s,z,x1,x2,x3,x4,x5⟩:=q1 id o hm
      exact .inr ⟨l,s,z,x1,x2,x3,g2.sub _ x4,x5⟩
     ·rcases List.mem_append.1 hm with hm |hm
      ·obtain ⟨a1,a2,lo,o',b1,b2,b3,b4,b5⟩:=r2 id o hm
       exact .inl ⟨a1,lo,o',b1,hcon.low _ _ a1 b1,b2,b3,b4,b5,a2⟩
      ·exact .inr (q2 id o hm)
    ·cases hg
   have src:∀ id o l b,(T.H (xe,xo)).get id=some o->o.dh=true->mG T.n0 us Γ id=some l->At I l o b->∃ id0 o0 l0,H.get id0=some o0/\o0.dh=true/\Γ id0=some l0/\At I l0 o0 b/\((id0=id/\id<T.n0/\∃ p∈T.jF,p.1=id)∨∃ q z,(id,some (id0,q),z)∈us):=by
    intro id o l b hg hm hl hat;rcases all id o hg with ⟨a1,lo,o',b1,b2,_,b3,b4,b6,b5⟩ |⟨l',s,z,b1,_,b2,b3,b4⟩
    ·cases hl.symm.trans b2
     exact ⟨id,o',_,b3,b4▸hm,b1,hat.imp (fun h=>h) (b6 b),.inl ⟨rfl,a1,b5⟩⟩
    ·cases hl.symm.trans b1
     cases s with
     |none=>
      simp only at b4
      exfalso
      rcases hat with ⟨y,hp⟩ |hh
      ·rw [b4] at hp;cases hp
      ·cases o with
       |nest=>obtain ⟨i,_,_,b0,o0,_,_,_,_,_,hp',_⟩:=hh;rw [b4] at hp';cases hp'
       |gT=>obtain ⟨i,x,b0,o,_,_,_,_,_,hp',_⟩:=hh;rw [b4] at hp';cases hp'
       |_=>cases hh
     |some q=>
      obtain ⟨id',off,len⟩:=q;obtain ⟨o',c1,c2,c3⟩:=b4;have:=hcon.us _ _ _ b3;simp only at this;have h4:=this.symm.trans hl;cases hg0:Γ id' with
      |none=>rw [hg0] at h4;cases h4
      |some l0=>
       rw [hg0] at h4;cases h4;refine ⟨id',o',l0,c1,c2,hg0,?_,.inr ⟨_,z,b3⟩⟩;rcases hat with ⟨y,hp⟩ |hh
       ·simp only [Loc.cut,Option.map_eq_some_iff] at hp
        obtain ⟨p,hp1,hp2⟩:=hp;cases hp2;exact .inl ⟨p.2,hp1⟩
       ·exact .inr (c3 l0 b hg0 hh)
   refine ⟨mG T.n0 us Γ,⟨?_,?_,?_,?_,hs.fresh,hs.pu,hs.ro,Nat.le_trans n3 n2,?_,?_,hs.HX⟩,fun t=>⟨r1 t,.undef _⟩,fun id l hlt hl=>hcon.low id l hlt hl,?_,n2⟩
   ·intro id o hg
    rcases all id o hg with ⟨_,lo,_,_,b2,b3,_⟩ |⟨l,_,_,b1,b2,_⟩
    ·exact ⟨lo,b2,b3⟩
    ·exact ⟨l,b1,b2⟩
   ·intro i1 i2 o1 o2 l1 l2 b hg1 hg2 hm1 hm2 hl1 hl2 hp1 hp2
    obtain ⟨j1,p1,m1,c1,c2,c3,c5,c4⟩:=src i1 o1 l1 b hg1 hm1 hl1 hp1;obtain ⟨j2,p2,m2,d1,d2,d3,d5,d4⟩:=src i2 o2 l2 b hg2 hm2 hl2 hp2;have hj:=hs.inj j1 j2 p1 p2 m1 m2 b c1 d1 c2 d2 c3 d3 c5 d5;subst hj;rcases c4 with ⟨e1,e2,e3⟩ |⟨q1,z1,e1⟩<;>rcases d4 with ⟨f1,f2,f3⟩ |⟨q2,z2,f1⟩
    ·rw [←e1,←f1]
    ·obtain ⟨q,hq1,hq2⟩:=e3
     exact absurd (hq2.trans e1.symm) (GB hap _ _ _ _ f1 q hq1)
    ·obtain ⟨q,hq1,hq2⟩:=f3
     exact absurd (hq2.trans f1.symm) (GB hap _ _ _ _ e1 q hq1)
    ·-- two lists that are handed on under one name
     have key:∀ {us:Us},us.Pairwise (fun p q=>∀ a b,p.2.1=some a->q.2.1=some b->a.1≠b.1)->∀ {a b:Nat} {id z w:Nat} {q1 q2:Nat×Nat},(a,some (id,q1),z)∈us->(b,some (id,q2),w)∈us->a=b:=by
      intro us
      induction us with
      |nil=>intro _ a b id z w q1 q2 h;cases h
      |cons p us ih=>
       intro hpw a b id z w q1 q2 h1 h2;rw [List.pairwise_cons] at hpw;rcases List.mem_cons.1 h1 with h1 |h1<;>rcases List.mem_cons.1 h2 with h2 |h2
       ·rw [←h1] at h2;cases h2;rfl
       ·exact absurd rfl (hpw.1 _ h2 (id,q1) (id,q2) (by rw [←h1]) rfl)
       ·exact absurd rfl (hpw.1 _ h1 (id,q2) (id,q1) (by rw [←h2]) rfl)
       ·exact ih hpw.2 h1 h2
     exact key hu.ii e1 f1
   ·rintro b ⟨id,o,l,hg,hm,hl,hp⟩ hpu
    obtain ⟨j1,p1,m1,c1,c2,c3,c5,_⟩:=src id o l b hg hm hl hp;exact hs.sep b ⟨j1,p1,m1,c1,c2,c3,c5⟩ hpu
   ·intro id l hl
    show id<T.n
    unfold mG at hl;split at hl
    ·omega
    ·cases hf:us.find? (fun p=>Nat.beq p.1 id) with
     |none=>rw [hf] at hl;cases hl
     |some p=>
      have h3:=List.find?_some hf;have h4:=List.mem_of_find?_eq_some hf;have:=(hu.c p h4).2;rw [←Nat.eq_of_beq_eq_true h3];exact this
   ·intro g hg
    obtain ⟨l,h3,h4⟩:=hs.cE g hg;exact ⟨l,hcon.low _ _ (Nat.lt_of_lt_of_le hg n3) h3,h4⟩
   ·intro id s hst
    unfold GH.aT at hst;split at hst
    ·rename_i s' o' heq
     cases hst;obtain ⟨h5,_⟩:=iA heq
     show s<T.ck+1
     omega
    ·cases hst
   ·rintro b ⟨id,o,l,hg,hm,hl,hp⟩
    obtain ⟨j1,p1,m1,c1,c2,c3,c5,_⟩:=src id o l b hg hm hl hp;exact ⟨j1,p1,m1,c1,c2,c3,c5⟩
  ·cases h
 ·cases h
theorem Ex.Wl (T:Tm) {Γ0:bc} {Pu0:Nat->Prop} {H0:GH} {I0:IH} (hs0:aw P hint sh Γ0 Pu0 H0 I0) (h:Ex O Γ0 Pu0 H0 I0 Γ Pu H I) {x:T.ty} (hn:H0.n<=T.n0) (hck:H0.ck<=T.ck) (h1:∀ id l,id<T.n0->Γ id=some l->Γ' id=some l) (h2:∀ b,bx Γ' (T.H x) I b->bx Γ H I b) (h3:T.n0<=T.n):
  Ex O Γ0 Pu0 H0 I0 Γ' Pu (T.H x) I where
 g:=fun id l hl=>h1 id l (Nat.lt_of_lt_of_le (hs0.bj id l hl) hn) (h.g id l hl)
 hn:=Nat.le_trans hn h3
 n:=h.n
 p:=h.p
 cI:=h.cI
 own:=fun b hb ho=>h.own b hb (h2 b ho)
 pn:=h.pn
 ck:=Nat.le_succ_of_le hck
 yW:=fun id _=>by
  unfold GH.aT;split
  ·rename_i s' o' heq
   obtain ⟨h5,_⟩:=iA heq;exact .inr (.inr ⟨s',rfl,by omega⟩)
  ·exact .inl rfl
 jv:=fun id l b y s hs1 hs2 hl hp=>by
  have hlt:=hs0.st id s hs1;unfold GH.aT at hs2;split at hs2
  ·rename_i s' o' heq
   cases hs2;obtain ⟨h5,_⟩:=iA heq;omega
  ·cases hs2
end
end Go.Gv
