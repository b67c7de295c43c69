/- Plain functions for functions and loops: what they are handed, what they hand back. -/
import Derived.Test.YteknbnkjelmfaaaGreatDoorGvTop
set_option linter.unusedSimpArgs false
set_option linter.unusedVariables false
namespace Go.Gv
open Go Go.Iv
inductive T1 where
 |int (k:IntKind)
 |byte
 |bool
 |str
 |aB (e:Sh)
 |all (c:Nat) (et:TypeId) (e:Sh) (em:Em)
 |tF (c:Nat) (et:TypeId) (e:Sh) (no:Nat) (net:TypeId) (ne:Sh) (em:Em)
 |fix (t:TV)
abbrev T1.ty:T1->Type
 | .int _=>Int
 | .byte=>UInt8
 | .bool=>Bool
 | .str=>List UInt8
 | .aB e=>List e.ty
 | .all _ _ e _=>List e.ty
 | .tF _ _ e _ _ _ _=>List e.ty
 | .fix _=>Unit
abbrev QE:List T1->Type
 | []=>Unit
 |t::r=>t.ty×QE r
inductive T2 where
 |one (t:T1)
 |agg (l:List T1)
abbrev T2.ty:T2->Type
 | .one t=>t.ty
 | .agg l=>QE l
abbrev np:List (Nat×T2)->Type
 | []=>Unit
 |(_,t)::r=>t.ty×np r
inductive OT where
 |cells (et:TypeId) (l:List T1) (wr:Bool)
 |arr (et:TypeId) (e:Sh) (wr fz:Bool) (em:Em)
 |iter
 |nest (et:TypeId) (e:Sh) (no:Nat) (net:TypeId) (ne:Sh) (em:Em)
 |map (kt:TypeId) (gk ge:Bool) (k e:Sh) (em:Bool)
 |gw (kt:TypeId) (gk:Bool) (k:Sh) (net:TypeId) (ne:Sh)
 |loop (bx:Nat) (st:LoopState) (pd:Option Code) (fi:FI) (E:List (Nat×T2)) (ps:List Tmp) (eo body:Code)
abbrev OT.ty:OT->Type
 | .cells _ l _=>QE l
 | .arr _ e _ _ _=>List e.ty
 | .iter=>List UInt8×Nat
 | .nest _ e _ _ _ _=>List e.ty
 | .map _ _ _ k e _=>List (k.ty×e.ty)
 | .gw _ _ k _ ne=>List (k.ty×List ne.ty)
 | .loop _ _ _ _ E _ _ _=>np E
abbrev bc:List (Nat×OT)->Type
 | []=>Unit
 |(_,t)::r=>t.ty×bc r
structure Tm where
 env:List (Nat×T2)
 fZ:List (Nat×OT)
 n0:Nat
 n:Nat
 ck:Nat
abbrev Tm.ty (T:Tm):Type:=np T.env×bc T.fZ
noncomputable section
abbrev xH:=List (Nat×bu)
def T1.put:(t:T1)->t.ty->TV×xH
 | .int k,n=>(.int k n,[])
 | .byte,c=>(.byte c,[])
 | .bool,b=>(.bool b,[])
 | .str,s=>(.str s,[])
 | .aB e,xs=>(.aB e xs none false,[])
 | .all c et e em,xs=>(.all c,[(c,.arr et e xs true false em)])
 | .tF c et e no net ne em,xs=>(.all c,[(c,.nest et e no net ne xs em none)])
 | .fix t,_=>(t,[])
def oC:(l:List T1)->QE l->List TV×xH
 | [],_=>([],[])
 |t::r,x=>((t.put x.1).1::(oC r x.2).1,(t.put x.1).2++(oC r x.2).2)
def T2.put:(t:T2)->t.ty->TV×xH
 | .one t,x=>t.put x
 | .agg l,x=>(.agg (oC l x).1,(oC l x).2)
def j8:(l:List (Nat×T2))->np l->DN×xH
 | [],_=>(.e,[])
 |(k,t)::r,x=>(.c k (t.put x.1).1 (j8 r x.2).1,(t.put x.1).2++(j8 r x.2).2)
def OT.put:(t:OT)->t.ty->bu×xH
 | .cells et l w,x=>(.cells et (oC l x).1 w,(oC l x).2)
 | .arr et e w fz em,xs=>(.arr et e xs w fz em,[])
 | .iter,x=>(.iter x.1 x.2,[])
 | .nest et e no net ne em,xs=>(.nest et e no net ne xs em none,[])
 | .map kt gk ge k e em,xs=>(.map kt gk ge k e xs em,[])
 | .gw kt gk k net ne,xs=>(.gw kt gk k net ne xs none,[])
 | .loop bx st pd fi E ps eo body,x=>(.loop bx st pd fi ⟨(j8 E x).1,.e⟩ ps eo body,(j8 E x).2)
def dP:(l:List (Nat×OT))->bc l->xH×xH
 | [],_=>([],[])
 |(id,t)::r,x=>((id,(t.put x.1).1)::(dP r x.2).1,(t.put x.1).2++(dP r x.2).2)
def Nl (ck:Nat):xH->Tr (Nat×bu)
 | []=> .nil
 |(id,o)::r=>Tr.pR (some (ck,o)) (Nat.succ id) (Nl ck r) id
def Tm.E (T:Tm) (x:T.ty):GE:=⟨(j8 T.env x.1).1,.e⟩
def Tm.H (T:Tm) (x:T.ty):GH:=⟨Nl T.ck ((j8 T.env x.1).2++((dP T.fZ x.2).1++(dP T.fZ x.2).2)),T.n,Nat.succ T.ck⟩
def Ef (n:Nat):List TV->Bool
 | []=>true
 | .ptr id _::r=>Nat.blt id n &&Ef n r
 | .mo id::r=>Nat.blt id n &&Ef n r
 | .all id::r=>Nat.blt id n &&Ef n r
 | .raw _::r | .undef::r=>Ef n r
 |_=>false
def QN (n:Nat):TV->Bool
 | .ptr id _=>Nat.blt id n
 | .mo id=>Nat.blt id n
 | .all id=>Nat.blt id n
 | .mp id=>Nat.blt id n
 | .raw _ | .undef=>true
 | .fn _ a c=>Ef n a &&Ef n c
 |_=>false
def te:Value->Value->Bool
 | .pointer none,.pointer none=>true
 | .nilFunc,.nilFunc=>true
 | .nilIface,.nilIface=>true
 | .map none,.map none=>true
 | .slice none 0 0,.slice none 0 0=>true
 |_,_=>false
def gu:List TV->List TV->Bool
 | [],[]=>true
 | .ptr a b::r,.ptr a' b'::r'=>Nat.beq a a' &&Nat.beq b b' &&gu r r'
 | .mo a::r,.mo a'::r'=>Nat.beq a a' &&gu r r'
 | .raw v::r,.raw v'::r'=>te v v' &&gu r r'
 |_,_=>false
def pD:TV->TV->Bool
 | .undef,_=>true
 | .ptr a b,.ptr a' b'=>Nat.beq a a' &&Nat.beq b b'
 | .mo a,.mo a'=>Nat.beq a a'
 | .raw v,.raw v'=>te v v'
 | .all a,.all a'=>Nat.beq a a'
 | .mp a,.mp a'=>Nat.beq a a'
 | .fn f a c,.fn f' a' c'=>Nat.beq f f' &&gu a a' &&gu c c'
 |_,_=>false
def N7 (H:GH) (et:TypeId) (e:Sh) (em:Em):TV->Option (Option (Nat×Nat×Nat)×List e.ty)
 | .raw (.slice none 0 0)=>bif em.sY then some (none,[]) else none
 | .all id=>match H.get id with
  |some (.arr et' e' xs true false em')=>bif Nat.beq et et' &&em'.le em then
    match Sh.same e' e with
    |some ⟨h⟩=>some (some (id,0,xs.length),fg h xs)
    |none=>none
   else none
  |_=>none
 | .own id off len=>match H.get id with
  |some (.arr et' e' xs true false em')=>bif Nat.beq et et' &&(bif em'.sY then Em.any.le em else Em.no.le em) then
    match Sh.same e' e with
    |some ⟨h⟩=>some (some (id,off,len),fg h ((xs.drop off).take len))
    |none=>none
   else none
  |_=>none
 |_=>none
def D4 (H:GH) (et:TypeId) (e:Sh) (no:Nat) (net:TypeId) (ne:Sh) (em:Em):TV->Option (Option (Nat×Nat×Nat)×List e.ty)
 | .raw (.slice none 0 0)=>bif em.sY &&JA e no ne then some (none,[]) else none
 | .all id=>match H.get id with
  |some (.nest et' e' no' net' ne' xs em' none)=>bif Nat.beq et et' &&Nat.beq no no' &&Nat.beq net net' &&em'.le em then
    match Sh.same e' e,Sh.same ne' ne with
    |some ⟨h⟩,some _=>some (some (id,0,xs.length),fg h xs)
    |_,_=>none
   else none
  |_=>none
 |_=>none
def Th {a b c d:Sh} (h:a=b) (h':c=d) (xs:List (a.ty×c.ty)):List (b.ty×d.ty):=h▸h'▸xs
def Te {a b c d:Sh} (h:a=b) (h':c=d) (xs:List (a.ty×List c.ty)):List (b.ty×List d.ty):=h▸h'▸xs
def FV {α:Type}:Option (α×List TV)->Option α
 |some (x,[])=>some x
 |_=>none
abbrev Us:=List (Nat×Option (Nat×Nat×Nat)×Nat)
def yV (c:Nat):Us->Bool
 | []=>true
 |(c',_)::r=> !Nat.beq c c' &&yV c r
def vV (id:Nat):Us->Bool
 | []=>true
 |(_,some (id',_),_)::r=> !Nat.beq id id' &&vV id r
 |(_,none,_)::r=>vV id r
def T1.get (H:GH) (n0 n:Nat) (us:Us):(t:T1)->TV->Option (t.ty×Us)
 | .int k,v=>match FV (ofInt k [v]) with
  |some x=>some (x,us)
  |none=>none
 | .byte,v=>match FV (yK [v]) with
  |some x=>some (x,us)
  |none=>none
 | .bool,v=>match FV (ofBool [v]) with
  |some x=>some (x,us)
  |none=>none
 | .str,v=>match FV (ofStr [v]) with
  |some x=>some (x,us)
  |none=>none
 | .aB e,v=>match FV (xG e [v]) with
  |some x=>some (x,us)
  |none=>none
 | .all c et e em,v=>bif Nat.ble n0 c &&Nat.blt c n &&yV c us then
   match N7 H et e em v with
   |some (none,xs)=>some (xs,(c,none,e.sz)::us)
   |some (some (id,p),xs)=>bif vV id us then some (xs,(c,some (id,p),e.sz)::us) else none
   |none=>none
  else none
 | .tF c et e no net ne em,v=>bif Nat.ble n0 c &&Nat.blt c n &&yV c us then
   match D4 H et e no net ne em v with
   |some (none,xs)=>some (xs,(c,none,e.sz)::us)
   |some (some (id,p),xs)=>bif vV id us then some (xs,(c,some (id,p),e.sz)::us) else none
   |none=>none
  else none
 | .fix t,v=>bif pD t v &&QN n0 t then some ((),us) else none
def Oa (H:GH) (n0 n:Nat):(l:List T1)->Us->List TV->Option (QE l×Us)
 | [],us,[]=>some ((),us)
 |t::r,us,v::vs=>match t.get H n0 n us v with
  |some (x,us)=>match Oa H n0 n r us vs with
   |some (y,us)=>some ((x,y),us)
   |none=>none
  |none=>none
 |_,_,_=>none
def T2.get (H:GH) (n0 n:Nat) (us:Us):(t:T2)->TV->Option (t.ty×Us)
 | .one t,v=>t.get H n0 n us v
 | .agg l,.agg vs=>Oa H n0 n l us vs
 |_,_=>none
def getEnv (H:GH) (n0 n:Nat) (L:DN):(l:List (Nat×T2))->Us->Option (np l×Us)
 | [],us=>some ((),us)
 |(k,t)::r,us=>match t.get H n0 n us (eT L k) with
  |some (x,us)=>match getEnv H n0 n L r us with
   |some (y,us)=>some ((x,y),us)
   |none=>none
  |none=>none
def vG:Option Code->Option Code->Bool
 |none,none=>true
 |some .ret,some .ret=>true
 |some (.exit a),some (.exit b)=>Nat.beq a b
 |_,_=>false
def OT.get (H:GH) (n0 n:Nat) (us:Us):(t:OT)->bu->Option (t.ty×Us)
 | .cells et l w,.cells et' cs w'=>bif Nat.beq et et' &&(bif w then w' else !w') then Oa H n0 n l us cs else none
 | .arr et e w fz em,.arr et' e' xs w' fz' em'=>bif Nat.beq et et' &&(bif w then w' else !w') &&(bif fz then fz' else !fz') &&em'.le em then
   match Sh.same e' e with
   |some ⟨h⟩=>some (fg h xs,us)
   |none=>none
  else none
 | .iter,.iter s p=>some ((s,p),us)
 | .nest et e no net ne em,.nest et' e' no' net' ne' xs em' ho=>bif Nat.beq et et' &&Nat.beq no no' &&Nat.beq net net' &&em'.le em &&ho.isNone then
   match Sh.same e' e,Sh.same ne' ne with
   |some ⟨h⟩,some _=>some (fg h xs,us)
   |_,_=>none
  else none
 | .map kt gk ge k e em,.map kt' gk' ge' k' e' xs em'=>bif Nat.beq kt kt' &&(bif gk then gk' else !gk') &&(bif ge then ge' else !ge') &&(bif em then em' else !em') then
   match Sh.same k' k,Sh.same e' e with
   |some ⟨h⟩,some ⟨h'⟩=>some (Th h h' xs,us)
   |_,_=>none
  else none
 | .gw kt gk k net ne,.gw kt' gk' k' net' ne' xs ho=>bif Nat.beq kt kt' &&(bif gk then gk' else !gk') &&Nat.beq net net' &&ho.isNone then
   match Sh.same k' k,Sh.same ne' ne with
   |some ⟨h⟩,some ⟨h'⟩=>some (Te h h' xs,us)
   |_,_=>none
  else none
 | .loop bx st pd _ E _ _ body,.loop fid' st' pd' _ E' _ _ body'=>
  bif Nat.beq bx fid' &&(st==st') &&vG pd pd' &&Nat.beq (dA body) (dA body') then getEnv H n0 n E'.loc E us else none
 |_,_=>none
def oK (H:GH) (n0 n:Nat):(l:List (Nat×OT))->Us->Option (bc l×Us)
 | [],us=>some ((),us)
 |(id,t)::r,us=>bif Nat.blt id n0 then match H.get id with
  |some o=>match t.get H n0 n us o with
   |some (x,us)=>match oK H n0 n r us with
    |some (y,us)=>some ((x,y),us)
    |none=>none
   |none=>none
  |none=>none
  else none
def apart (fZ:List (Nat×OT)):Us->Bool
 | []=>true
 |(_,some (id,_),_)::r=>fZ.all (fun p=> !Nat.beq p.1 id) &&apart fZ r
 |(_,none,_)::r=>apart fZ r
def Tm.get (T:Tm) (E:GE) (H:GH):Option T.ty:=
 bif Nat.ble T.n0 H.n &&Nat.ble T.n0 T.n &&Nat.ble bI T.n0 then
  match getEnv H T.n0 T.n E.loc T.env [] with
  |some (x,us)=>match oK H T.n0 T.n T.fZ us with
   |some (y,us)=>bif apart T.fZ us then some (x,y) else none
   |none=>none
  |none=>none
 else none
def vO:TV->GH->GH
 | .all id,H=>lI H id
 |_,H=>H
def jZ:List (Nat×T2)->DN->GH->DN×GH
 | [],L,H=>(L,H)
 |(k,.one (.aB _))::r,L,H=>match eT L k with
  | .all id=>match rS H (.all id) with
   |some (v,H)=>jZ r (mP L k v) H
   |none=>jZ r L H
  | .own id a b=>match rS H (.own id a b) with
   |some (v,H)=>jZ r (mP L k v) H
   |none=>jZ r L H
  |_=>jZ r L H
 |(k,.one (.tF ..))::r,L,H=>jZ r L (vO (eT L k) H)
 |_::r,L,H=>jZ r L H
def mh:List T1->List TV->GH->GH
 | .tF .. ::r,v::vs,H=>mh r vs (vO v H)
 |_::r,_::vs,H=>mh r vs H
 |_,_,H=>H
def mW:List (Nat×OT)->GH->GH
 | [],H=>H
 |(id,.nest ..)::r,H=>mW r (lI H id)
 |(id,.gw ..)::r,H=>mW r (DV H id)
 |(id,.cells _ l _)::r,H=>match H.get id with
  |some (.cells _ cs _)=>mW r (mh l cs H)
  |_=>mW r H
 |_::r,H=>mW r H
def Tm.take (T:Tm) (E:GE) (H:GH):Option T.ty:=
 match jZ T.env E.loc (mW T.fZ H) with
 |(L,H)=>T.get ⟨L,E.tmp⟩ H
end
section
variable {P:Program} {hint:Hint} {sh:bU} {O:Nat->Prop} {Γ Γ1 Γ':aN} {Pu Pu1:Nat->Prop} {H H1:GH} {I I1:IH}
def Loc.cut (off len:Nat) (l:Loc):Loc:=⟨l.pos.map fun p=>(p.1,p.2+off*l.sz),len,l.sz,l.tot⟩
theorem Loc.zF (l:Loc):l.cut 0 l.len=l:=by
 obtain ⟨p,n,z,t⟩:=l;cases p<;>simp [Loc.cut]
structure Mr (n0:Nat) (us:Us) (Γ Γ':aN):Prop where
 low:∀ id l,id<n0->Γ id=some l->Γ' id=some l
 us:∀ c s z,(c,s,z)∈us->(match s with
  |some (id,off,len)=>Γ' c=(Γ id).map (Loc.cut off len)
  |none=>Γ' c=some ⟨none,0,z,0⟩)
theorem Mr.sub {n0:Nat} {us us':Us} (h:Mr n0 us' Γ Γ') (hs:∀ p,p∈us->p∈us'):Mr n0 us Γ Γ':=⟨h.low,fun c s z hm=>h.us c s z (hs _ hm)⟩
theorem GW {n0:Nat} {us:Us} (hc:Mr n0 us Γ Γ'):∀ {l:List TV} {l':List Value},Ef n0 l=true->br Γ Pu I l l'->br Γ' Pu I l l':=by
 intro l
 induction l with
 |nil=>intro l' _ h;cases h;exact .nil
 |cons t l ih=>
  intro l' hi h;cases h with |cons a b=>
  cases t with
  |ptr id off=>
   replace hi:=ae hi;cases a with |ptr x y=>exact .cons (.ptr (hc.low _ _ (c7 hi.1) x) y) (ih hi.2 b)
  |mo id=>
   replace hi:=ae hi;cases a with |mo x y=>exact .cons (.mo (hc.low _ _ (c7 hi.1) x) y) (ih hi.2 b)
  |all id=>
   replace hi:=ae hi;cases a with |all x y=>exact .cons (.all (hc.low _ _ (c7 hi.1) x) y) (ih hi.2 b)
  |raw v=>cases a;exact .cons (.raw _) (ih hi b)
  |undef=>exact .cons (.undef _) (ih hi b)
  |_=>cases hi
theorem Ly {n0:Nat} {us:Us} (hc:Mr n0 us Γ Γ') {t:TV} {v:Value} (hi:QN n0 t=true) (h:GR Γ Pu I t v):GR Γ' Pu I t v:=by
 cases t with
 |ptr id off=>cases h with |ptr x y=>exact .ptr (hc.low _ _ (c7 hi) x) y
 |mo id=>cases h with |mo x y=>exact .mo (hc.low _ _ (c7 hi) x) y
 |all id=>cases h with |all x y=>exact .all (hc.low _ _ (c7 hi) x) y
 |mp id=>cases h with |mp x y=>exact .mp (hc.low _ _ (c7 hi) x) y
 |raw w=>cases h;exact .raw _
 |undef=>exact .undef _
 |fn f a c=>
  replace hi:=ae hi;cases h with |fn x y=>exact .fn (GW hc hi.1 x) (GW hc hi.2 y)
 |_=>cases hi
theorem ue {v w:Value} (h:te v w=true):v=w:=by
 unfold te at h
 grind
theorem sB:∀ {l k:List TV} {l':List Value},gu l k=true->br Γ Pu I k l'->br Γ Pu I l l':=by
 intro l
 induction l with
 |nil=>intro k l' h hr;cases k with
  |nil=>exact hr
  |cons=>cases h
 |cons t l ih=>
  intro k l' h hr;cases k with
  |nil=>
   unfold gu at h
   grind
  |cons u k=>
   cases hr with |cons a b=>
   unfold gu at h;split at h
   .grind
   .rename_i h1 h2;cases h1;cases h2
    replace h:=ae h;obtain ⟨h,h3⟩:=h;replace h:=ae h;rw [beq_true h.1,beq_true h.2];exact .cons a (ih h3 b)
   .rename_i h1 h2;cases h1;cases h2
    replace h:=ae h;rw [beq_true h.1];exact .cons a (ih h.2 b)
   .rename_i h1 h2;cases h1;cases h2
    replace h:=ae h;rw [ue h.1];exact .cons a (ih h.2 b)
   .cases h
theorem nI {t u:TV} {v:Value} (h:pD t u=true) (hr:GR Γ Pu I u v):GR Γ Pu I t v:=by
 unfold pD at h;split at h
 .exact .undef _
 .simp_all
 .simp_all
 .rw [ue h];exact hr
 .simp_all
 .simp_all
 .replace h:=ae h;obtain ⟨h,h3⟩:=h
  replace h:=ae h;obtain ⟨h1,h2⟩:=h;rw [beq_true h1];cases hr with |fn a b=>exact .fn (sB h2 a) (sB h3 b)
 .cases h
def iY (P:Program) (hint:Hint) (Γ Γ':aN) (Pu:Nat->Prop) (I:IH) (us:Us) (H:GH) (N:xH):Prop:=
 ∀ c o,(c,o)∈N->∃ l s z,Γ' c=some l/\OR P hint Γ' Pu I l o/\o.cY=true/\(c,s,z)∈us/\(match s with
  |some (id,_)=>∃ o',H.get id=some o'/\o'.cY=true/\∀ l0 b,Γ id=some l0->o.has I l b->o'.has I l0 b
  |none=>l.pos=none)
theorem iY.nil {us:Us}:iY P hint Γ Γ' Pu I us H []:=fun c o h=>by cases h
theorem iY.app {us:Us} {A B:xH} (h:iY P hint Γ Γ' Pu I us H A) (k:iY P hint Γ Γ' Pu I us H B):iY P hint Γ Γ' Pu I us H (A++B):=fun c o hm=>by
 rcases List.mem_append.1 hm with x |x
 .exact h c o x
 .exact k c o x
structure gW (n0 n:Nat) (us:Us):Prop where
 c:∀ p∈us,n0<=p.1/\p.1<n
 cc:us.Pairwise fun p q=>p.1≠q.1
 ii:us.Pairwise fun p q=>∀ a b,p.2.1=some a->q.2.1=some b->a.1≠b.1
theorem gW.nil {n0 n:Nat}:gW n0 n []:=⟨(fun p h=>by cases h),List.Pairwise.nil,List.Pairwise.nil⟩
theorem yp {c:Nat}:∀ {us:Us},yV c us=true->∀ p∈us,c≠p.1:=by
 intro us
 induction us with
 |nil=>grind
 |cons q us ih=>
  intro h p hp;obtain ⟨c',s,z⟩:=q;replace h:=ae h;rcases List.mem_cons.1 hp with rfl |hp
  .intro e
   have:=h.1;rw [show c=c' from e,Nat.beq_refl] at this;cases this
  grind
theorem xp {id:Nat}:∀ {us:Us},vV id us=true->∀ p∈us,∀ b,p.2.1=some b->id≠b.1:=by
 intro us
 induction us with
 |nil=>grind
 |cons q us ih=>
  intro h p hp b hb;obtain ⟨c',s,z⟩:=q;cases s with
  |some id'=>
   obtain ⟨id',q'⟩:=id';replace h:=ae h;rcases List.mem_cons.1 hp with rfl |hp
   .cases hb
    intro e;have:=h.1;rw [show id=id' from e,Nat.beq_refl] at this;cases this
   grind
  |none=>
   rcases List.mem_cons.1 hp with rfl |hp
   .cases hb
   .exact ih h p hp b hb
theorem gW.cons {n0 n c:Nat} {s:Option (Nat×Nat×Nat)} {z:Nat} {us:Us} (h:gW n0 n us) (h1:n0<=c) (h2:c<n) (h3:∀ p∈us,c≠p.1) (h4:∀ p∈us,∀ a b,s=some a->p.2.1=some b->a.1≠b.1):gW n0 n ((c,s,z)::us):=
 ⟨fun p hp=>by
  rcases List.mem_cons.1 hp with rfl |hp
  .omega
  .exact h.c p hp,List.Pairwise.cons h3 h.cc,List.Pairwise.cons (fun p hp a b x y=>h4 p hp a b x y) h.ii⟩
theorem jY {α:Type} {o:Option (α×List TV)} {x:α} (h:FV o=some x):o=some (x,[]):=by
 unfold FV at h
 grind
structure rI (P:Program) (hint:Hint) (n0 n:Nat) (Γ:aN) (Pu:Nat->Prop) (I:IH) (H:GH) (us us':Us) (q:aN->Prop) (N:xH):Prop where
 sub:∀ p,p∈us->p∈us'
 ok:gW n0 n us'
 qF:∀ Γ',Mr n0 us' Γ Γ'->q Γ'/\iY P hint Γ Γ' Pu I us' H N
theorem OR.cut {l:Loc} {et:TypeId} {e:Sh} {xs:List e.ty} {em em':Em} (ho:OR P hint Γ Pu I l (.arr et e xs true false em)) {off len:Nat} (hle:off+len<=xs.length) (hem:(bif em.sY then Em.any.le em' else Em.no.le em')=true):
  OR P hint Γ Pu I (l.cut off len) (.arr et e ((xs.drop off).take len) true false em'):=by
 obtain ⟨o1,o2,o3,o4⟩:=ho;have hl:((xs.drop off).take len).length=len:=by simp;omega
 refine ⟨hl.symm,o2,o3,?_⟩;rcases o4 with ⟨hp,hx,hne⟩ |⟨b,o,vs,f,ex,sd,hp,he,hg,ht,hbl,hrows,hw,hu⟩
 .refine .inl ⟨by simp [Loc.cut,hp],by simp [hx],?_⟩
  cases em<;>cases em'<;>first |exact absurd rfl hne |(cases hem;done) |simp
 .refine .inr ⟨b,o+off*l.sz,vs,f,ex,sd,by simp [Loc.cut,hp],?_,hg,ht,?_,fun i x hi=>?_,fun h=>?_,fun h=>by cases h⟩
  .cases em<;>cases em'<;>first |(cases hem;done) |(intro h;cases h;done)
  .rw [hl,o2,Nat.add_assoc,←zaj]
   have:=Nat.mul_le_mul_right e.sz hle;omega
  .rw [List.getElem?_take] at hi
   split at hi
   .rw [List.getElem?_drop] at hi
    have:=hrows (off+i) x hi;rw [o2,Nat.add_assoc,←zaj];exact this
   .cases hi
  grind
theorem fF.cut {l:Loc} {off len:Nat} {v:Value} (h:fF l off len v):fF (l.cut off len) 0 (l.cut off len).len v:=by
 unfold fF at h ⊢;split at h
 .rename_i hp;simp only [Loc.cut,hp,Option.map_none];exact h
 .rename_i b o hp
  simp only [Loc.cut,hp,Option.map_some,Nat.zero_mul,Nat.add_zero];exact h
theorem OR.le {l:Loc} {et:TypeId} {e:Sh} {xs:List e.ty} {w fz:Bool} {em em':Em} (hle:em.le em'=true) (ho:OR P hint Γ Pu I l (.arr et e xs w fz em)):OR P hint Γ Pu I l (.arr et e xs w fz em'):=by
 obtain ⟨o1,o2,o3,o4⟩:=ho;refine ⟨o1,o2,o3,?_⟩;rcases o4 with ⟨hp,hx,hne⟩ |⟨b,o,vs,f,ex,sd,hp,he,h⟩
 .refine .inl ⟨hp,hx,?_⟩
  cases em<;>cases em'<;>first |exact absurd rfl hne |(cases hle;done) |simp
 .refine .inr ⟨b,o,vs,f,ex,sd,hp,?_,h⟩
  cases em<;>cases em'<;>first |(cases hle;done) |exact he |grind
theorem A1 (hs:au P hint sh Γ Pu H I) {et:TypeId} {e:Sh} {em:Em} {t:TV} {v:Value} {s:Option (Nat×Nat×Nat)} {xs:List e.ty} (h:N7 H et e em t=some (s,xs)) (hr:GR Γ Pu I t v):
  (s=none/\xs= []/\v= .slice none 0 0/\em≠ .no)\/∃ id off len l o,s=some (id,off,len)/\Γ id=some l/\H.get id=some o/\o.cY=true/\OR P hint Γ Pu I (l.cut off len) (.arr et e xs true false em)/\fF (l.cut off len) 0 (l.cut off len).len v:=by
 unfold N7 at h;split at h
 .cases hr
  obtain ⟨h1,h2⟩:=ad h;cases h2;exact .inl ⟨rfl,rfl,rfl,by cases em<;>first |(cases h1;done) |simp⟩
 .rename_i id
  cases hr with |all hl hv=>
  split at h
  .rename_i et' e' xs' em' hg
   replace h:=ad h;obtain ⟨hb,h⟩:=h;replace hb:=ae hb;obtain ⟨hb1,hb2⟩:=hb;have he:=beq_true hb1;subst he;split at h
   .rename_i hh _
    subst hh;cases h;obtain ⟨l',hl',ho⟩:=hs.obj _ _ hg;cases hl.symm.trans hl';have h1:List.length xs'=Loc.len _:=ho.1.symm;refine .inr ⟨id,0,_,_,_,rfl,hl,hg,rfl,?_,?_⟩
    .rw [h1,Loc.zF];exact ho.le hb2
    .rw [h1,Loc.zF];exact hv
   .cases h
  .cases h
 .rename_i id off len
  cases hr with |own hl hle hv=>
  split at h
  .rename_i et' e' xs' em' hg
   replace h:=ad h;obtain ⟨hb,h⟩:=h;replace hb:=ae hb;obtain ⟨hb1,hb2⟩:=hb;have he:=beq_true hb1;subst he;split at h
   .rename_i hh _
    subst hh;cases h;obtain ⟨l',hl',ho⟩:=hs.obj _ _ hg;cases hl.symm.trans hl';exact .inr ⟨id,off,len,_,_,rfl,hl,hg,rfl,ho.cut (by rw [←ho.1];exact hle) hb2,hv.cut⟩
   .cases h
  .cases h
 .cases h
def Qn:TV->Bool
 | .int _ _ | .byte _ | .bool _ | .str _ | .aB _ _ _ _ | .undef=>true
 |_=>false
theorem br.R7:∀ {l:List TV} {vs:List Value},l.all Qn=true->br Γ Pu I l vs->br Γ' Pu I l vs:=by
 intro l
 induction l with
 |nil=>intro vs _ h;cases h;exact .nil
 |cons t r ih=>
  intro vs hn h;simp only [List.all_cons,zae] at hn;cases h with |cons a b=>
  refine .cons ?_ (ih hn.2 b);cases t with
  |int k n=>cases a;exact .int k n
  |byte c=>cases a;exact .byte c
  |bool c=>cases a;exact .bool c
  |str c=>cases a;exact .str c
  |aB e xs nl cl=>cases a with |aB x y z=>exact .aB x y z
  |undef=>exact .undef _
  |_=>cases hn.1
theorem KT:∀ {e:Sh} (x:e.ty),(e.cV x).all Qn=true:=by
 intro e
 induction e with
 |cons a b iha ihb=>intro x;simp only [Sh.cV,List.all_append,zae];grind
 |_=>intro x;rfl
theorem Kl {l:List TV} (h:l.all Qn=true):∀ n,(l.set n .undef).all Qn=true:=by
 induction l with
 |nil=>intro n;rfl
 |cons t r ih=>
  simp only [List.all_cons,zae] at h;intro n;cases n with
  |zero=>simp only [List.set_cons_zero,List.all_cons,zae];exact ⟨rfl,h.2⟩
  |succ n=>grind
theorem I6 {e:Sh} {x:e.ty} {no:Nat} {vs:List Value} (h:br Γ Pu I ((e.cV x).set no .undef) vs):br Γ' Pu I ((e.cV x).set no .undef) vs:=h.R7 (Kl (KT x) no)
theorem bo.R7 {l:Loc} {et:TypeId} {e:Sh} {no:Nat} {net:TypeId} {ne:Sh} {xs:List e.ty} {em:Em} {ho:Option (Nat×Nat×e.ty)} (h:bo Γ Pu I l et e no net ne xs em ho) (hn:ho=none):bo Γ' Pu I l et e no net ne xs em ho:=by
 obtain ⟨h1,h2,h3,h4,h5 |⟨b0,o,vs,f,ex,hp,he,hg,ht,hl,hro,hf,hx,hy,hh,hd,hself⟩⟩:=h
 .exact ⟨h1,h2,h3,h4,.inl h5⟩
 .exact ⟨h1,h2,h3,h4,.inr ⟨b0,o,vs,f,ex,hp,he,hg,ht,hl,hro,hf,fun i x hi=>I6 (hx i x hi),hy,(fun i n x h=>by grind),hd,hself⟩⟩
theorem jU.R7 {l:Loc} {kt:TypeId} {gk:Bool} {k:Sh} {net:TypeId} {ne:Sh} {xs:List (k.ty×List ne.ty)} (h:jU P Γ Pu I l kt gk k net ne xs none):jU P Γ' Pu I l kt gk k net ne xs none:=by
 obtain ⟨h1,h2,h3,b0,es,ck,hp,hro,hgb,hlen,hkk,hx,hh,hd⟩:=h;exact ⟨h1,h2,h3,b0,es,ck,hp,hro,hgb,hlen,hkk,hx,fun y m hc=>(by cases hc),hd⟩
theorem bo.le {l:Loc} {et:TypeId} {e:Sh} {no:Nat} {net:TypeId} {ne:Sh} {xs:List e.ty} {em em':Em} {ho:Option (Nat×Nat×e.ty)} (hle:em.le em'=true) (h:bo Γ Pu I l et e no net ne xs em ho):bo Γ Pu I l et e no net ne xs em' ho:=by
 obtain ⟨h1,h2,h3,h4,h5 |⟨b0,o,vs,f,ex,hp,he,h⟩⟩:=h
 .refine ⟨h1,h2,h3,h4,.inl ⟨h5.1,h5.2.1,?_,h5.2.2.2⟩⟩
  have:=h5.2.2.1;cases em<;>cases em'<;>first |exact absurd rfl this |(cases hle;done) |simp
 .refine ⟨h1,h2,h3,h4,.inr ⟨b0,o,vs,f,ex,hp,?_,h⟩⟩
  cases em<;>cases em'<;>first |(cases hle;done) |exact he |grind
theorem xu (hs:au P hint sh Γ Pu H I) {et:TypeId} {e:Sh} {no:Nat} {net:TypeId} {ne:Sh} {em:Em} {t:TV} {v:Value} {s:Option (Nat×Nat×Nat)} {xs:List e.ty} (h:D4 H et e no net ne em t=some (s,xs)) (hr:GR Γ Pu I t v):
  (s=none/\xs= []/\v= .slice none 0 0/\em≠ .no/\JA e no ne=true)\/∃ id l o,s=some (id,0,l.len)/\Γ id=some l/\H.get id=some o/\o.cY=true/\bo Γ Pu I l et e no net ne xs em none/\fF l 0 l.len v/\∀ b,bu.has I l b (.nest et e no net ne xs em none)->o.has I l b:=by
 unfold D4 at h;split at h
 .cases hr
  obtain ⟨h1,h2⟩:=ad h;replace h1:=ae h1;cases h2;exact .inl ⟨rfl,rfl,rfl,by have:=h1.1;cases em<;>first |(cases this;done) |simp,h1.2⟩
 .rename_i id
  cases hr with |all hl hv=>
  split at h
  .rename_i et' e' no' net' ne' xs' em' hg
   replace h:=ad h;obtain ⟨hb,h⟩:=h;replace hb:=ae hb;obtain ⟨hb,hb4⟩:=hb;replace hb:=ae hb;obtain ⟨hb,hb3⟩:=hb;replace hb:=ae hb;obtain ⟨hb1,hb2⟩:=hb;have q1:=beq_true hb1;have q2:=beq_true hb2;have q3:=beq_true hb3;subst q1 q2 q3;split at h
   .rename_i hh h2 _ hs2
    subst hh;obtain ⟨h2⟩:=h2;subst h2;cases h;obtain ⟨l',hl',ho⟩:=hs.obj _ _ hg;cases hl.symm.trans hl';have ho':bo Γ Pu I _ et e' no net ne' xs' em' none:=ho;have h1:=ho'.1;exact .inr ⟨id,_,_,by rw [h1],hl,hg,rfl,ho'.le hb4,hv,fun b h=>h⟩
   .cases h
  .cases h
 .cases h
theorem T1.gF (hs:au P hint sh Γ Pu H I) {n0 n:Nat} {us us':Us} (hu:gW n0 n us) {t:T1} {x:t.ty} {v:TV} {v':Value} (h:t.get H n0 n us v=some (x,us')) (hr:GR Γ Pu I v v'):
  rI P hint n0 n Γ Pu I H us us' (fun Γ'=>GR Γ' Pu I (t.put x).1 v') (t.put x).2:=by
 have same:∀ {t':T1} {y:t'.ty},us'=us->(∀ Γ',Mr n0 us' Γ Γ'->GR Γ' Pu I (t'.put y).1 v')->(t'.put y).2= []->rI P hint n0 n Γ Pu I H us us' (fun Γ'=>GR Γ' Pu I (t'.put y).1 v') (t'.put y).2:=by
  intro t' y he h1 h2;subst he;rw [h2];exact ⟨fun _ h=>h,hu,fun Γ' hc=>⟨h1 Γ' hc,iY.nil⟩⟩
 cases t with
 |int k=>
  simp only [T1.get] at h;split at h
  .rename_i y hy
   cases h;have h1:=jY hy;have h2:=Sh.rU (s:= .int k) (Γ:=Γ) (Pu:=Pu) (I:=I) h1 (.cons hr .nil);obtain ⟨u,w,e1,e2,e3⟩:=h2;cases e3;rw [List.append_nil] at e1;subst e1;unfold bA at e2;cases e2;exact same rfl (fun Γ' _=> .int k _) rfl
  .cases h
 |byte=>
  simp only [T1.get] at h;split at h
  .rename_i y hy
   cases h;have h1:=jY hy;have h2:=Sh.rU (s:= .byte) (Γ:=Γ) (Pu:=Pu) (I:=I) h1 (.cons hr .nil);obtain ⟨u,w,e1,e2,e3⟩:=h2;cases e3;rw [List.append_nil] at e1;subst e1;unfold bA at e2;cases e2;exact same rfl (fun Γ' _=> .byte _) rfl
  .cases h
 |bool=>
  simp only [T1.get] at h;split at h
  .rename_i y hy
   cases h;have h1:=jY hy;have h2:=Sh.rU (s:= .bool) (Γ:=Γ) (Pu:=Pu) (I:=I) h1 (.cons hr .nil);obtain ⟨u,w,e1,e2,e3⟩:=h2;cases e3;rw [List.append_nil] at e1;subst e1;unfold bA at e2;cases e2;exact same rfl (fun Γ' _=> .bool _) rfl
  .cases h
 |str=>
  simp only [T1.get] at h;split at h
  .rename_i y hy
   cases h;have h1:=jY hy;have h2:=Sh.rU (s:= .str) (Γ:=Γ) (Pu:=Pu) (I:=I) h1 (.cons hr .nil);obtain ⟨u,w,e1,e2,e3⟩:=h2;cases e3;rw [List.append_nil] at e1;subst e1;unfold bA at e2;cases e2;exact same rfl (fun Γ' _=> .str _) rfl
  .cases h
 |aB e=>
  simp only [T1.get] at h;split at h
  .rename_i y hy
   cases h;have h1:=jY hy;have h2:=A8 (Γ:=Γ) (Pu:=Pu) (I:=I) h1 (.cons hr .nil);obtain ⟨u,w,e1,e2,e3⟩:=h2;cases e3;rw [List.append_nil] at e1;subst e1;exact same rfl (fun Γ' _=> .aB e2 (fun c hc=>by cases hc) (fun hc=>by cases hc)) rfl
  .cases h
 |fix t=>
  simp only [T1.get] at h;replace h:=ad h;obtain ⟨hb,h⟩:=h;replace hb:=ae hb;cases h;exact same rfl (fun Γ' hc=>Ly hc hb.2 (nI hb.1 hr)) rfl
 |all c et e em=>
  simp only [T1.get] at h;replace h:=ad h;obtain ⟨hb,h⟩:=h;replace hb:=ae hb;obtain ⟨hb,hb3⟩:=hb;replace hb:=ae hb;obtain ⟨hb1,hb2⟩:=hb;have c1:=aF hb1;have c2:=c7 hb2;have c3:=yp hb3;split at h
  .rename_i xs ha
   cases h;rcases A1 hs ha hr with ⟨_,rfl,rfl,hne⟩ |⟨_,_,_,_,_,h1,_⟩
   .refine ⟨fun p hp=>zan _ hp,hu.cons c1 c2 c3 (fun p hp a b hh=>by cases hh),fun Γ' hc=>?_⟩
    have hg:=hc.us c none e.sz List.mem_cons_self;simp only at hg;refine ⟨.all hg ⟨rfl,rfl⟩,fun c' o hm=>?_⟩;simp only [T1.put,List.mem_singleton,Prod.mk.injEq] at hm;obtain ⟨rfl,rfl⟩:=hm;exact ⟨_,none,e.sz,hg,⟨rfl,rfl,e.gG,.inl ⟨rfl,rfl,hne⟩⟩,rfl,List.mem_cons_self,rfl⟩
   .cases h1
  .rename_i id q xs ha
   replace h:=ad h;obtain ⟨hb,h⟩:=h;cases h;rcases A1 hs ha hr with ⟨h1,_⟩ |⟨id',off,len,l,ob,h1,h2,h3,h6,h4,h5⟩
   .cases h1
   .cases h1
    refine ⟨fun p hp=>zan _ hp,hu.cons c1 c2 c3 (fun p hp a b hh hk=>by cases hh;exact xp hb p hp b hk),fun Γ' hc=>?_⟩;have hg:=hc.us c (some (id,off,len)) e.sz List.mem_cons_self;simp only at hg;rw [h2] at hg;refine ⟨.all hg h5,fun c' o hm=>?_⟩;simp only [T1.put,List.mem_singleton,Prod.mk.injEq] at hm;obtain ⟨rfl,rfl⟩:=hm;have hk:cp Γ Pu I Γ' Pu I->OR P hint Γ' Pu I (l.cut off len) (.arr et e x true false em):=fun hk=>h4.mono hk fun _ _=>rfl
    exact ⟨l.cut off len,some (id,off,len),e.sz,hg,h4,rfl,List.mem_cons_self,_,h3,h6,fun _ _ _ h=>absurd h (fun h=>h)⟩
  .cases h
 |tF c et e no net ne em=>
  simp only [T1.get] at h;replace h:=ad h;obtain ⟨hb,h⟩:=h;replace hb:=ae hb;obtain ⟨hb,hb3⟩:=hb;replace hb:=ae hb;obtain ⟨hb1,hb2⟩:=hb;have c1:=aF hb1;have c2:=c7 hb2;have c3:=yp hb3;split at h
  .rename_i xs ha
   cases h;rcases xu hs ha hr with ⟨_,rfl,rfl,hne,hno⟩ |⟨_,_,_,h1,_⟩
   .refine ⟨fun p hp=>zan _ hp,hu.cons c1 c2 c3 (fun p hp a b hh=>by cases hh),fun Γ' hc=>?_⟩
    have hg:=hc.us c none e.sz List.mem_cons_self;simp only at hg;refine ⟨.all hg ⟨rfl,rfl⟩,fun c' o hm=>?_⟩;simp only [T1.put,List.mem_singleton,Prod.mk.injEq] at hm;obtain ⟨rfl,rfl⟩:=hm;exact ⟨_,none,e.sz,hg,⟨rfl,rfl,e.gG,hno,.inl ⟨rfl,rfl,hne,rfl⟩⟩,rfl,List.mem_cons_self,rfl⟩
   .cases h1
  .rename_i id q xs ha
   replace h:=ad h;obtain ⟨hb,h⟩:=h;cases h;rcases xu hs ha hr with ⟨h1,_⟩ |⟨id',l,ob,h1,h2,h3,h6,h4,h5,h7⟩
   .cases h1
   .cases h1
    refine ⟨fun p hp=>zan _ hp,hu.cons c1 c2 c3 (fun p hp a b hh hk=>by cases hh;exact xp hb p hp b hk),fun Γ' hc=>?_⟩;have hg:=hc.us c (some (id,0,l.len)) e.sz List.mem_cons_self;simp only at hg;rw [h2,Option.map_some,Loc.zF] at hg;refine ⟨.all hg h5,fun c' o hm=>?_⟩;simp only [T1.put,List.mem_singleton,Prod.mk.injEq] at hm;obtain ⟨rfl,rfl⟩:=hm;refine ⟨l,some (id,0,l.len),e.sz,hg,?_,rfl,List.mem_cons_self,_,h3,h6,fun l0 b h8 h9=>?_⟩
    .exact bo.R7 h4 rfl
    grind
  .cases h
theorem rI.trans {n0 n:Nat} {us us1 us2:Us} {p q:aN->Prop} {A B:xH} (h:rI P hint n0 n Γ Pu I H us us1 p A) (k:rI P hint n0 n Γ Pu I H us1 us2 q B):rI P hint n0 n Γ Pu I H us us2 (fun Γ'=>p Γ'/\q Γ') (A++B):=
 ⟨fun x hx=>k.sub x (h.sub x hx),k.ok,fun Γ' hc=>by
  obtain ⟨a,b⟩:=h.qF Γ' (hc.sub k.sub);obtain ⟨c,d⟩:=k.qF Γ' hc;refine ⟨⟨a,c⟩,iY.app (fun c o hm=>?_) d⟩;obtain ⟨l,s,z,x1,x2,x3,x4,x5⟩:=b c o hm;exact ⟨l,s,z,x1,x2,x3,k.sub _ x4,x5⟩⟩
theorem rI.imp {n0 n:Nat} {us us1:Us} {p q:aN->Prop} {A:xH} (h:rI P hint n0 n Γ Pu I H us us1 p A) (hi:∀ Γ',p Γ'->q Γ'):rI P hint n0 n Γ Pu I H us us1 q A:=
 ⟨h.sub,h.ok,fun Γ' hc=>⟨hi Γ' (h.qF Γ' hc).1,(h.qF Γ' hc).2⟩⟩
theorem rI.none {n0 n:Nat} {us:Us} {p:aN->Prop} (hu:gW n0 n us) (hp:∀ Γ',p Γ'):rI P hint n0 n Γ Pu I H us us p []:=
 ⟨fun _ h=>h,hu,fun Γ' _=>⟨hp Γ',iY.nil⟩⟩
theorem Gl (hs:au P hint sh Γ Pu H I) {n0 n:Nat}:∀ {l:List T1} {us us':Us} {x:QE l} {vs:List TV} {vs':List Value},gW n0 n us->Oa H n0 n l us vs=some (x,us')->br Γ Pu I vs vs'->
  rI P hint n0 n Γ Pu I H us us' (fun Γ'=>br Γ' Pu I (oC l x).1 vs') (oC l x).2:=by
 intro l
 induction l with
 |nil=>
  intro us us' x vs vs' hu h hr;cases vs with
  |nil=>cases h;cases hr;exact rI.none hu fun _=> .nil
  |cons=>cases h
 |cons t r ih=>
  intro us us' x vs vs' hu h hr;cases hr with
  |nil=>cases h
  |cons a b=>
   simp only [Oa] at h;split at h
   .rename_i y us1 h1
    split at h
    .rename_i z us2 h2
     cases h;have g1:=T1.gF hs hu h1 a;have g2:=ih g1.ok h2 b;exact (g1.trans g2).imp fun Γ' hh=> .cons hh.1 hh.2
    .cases h
   .cases h
theorem T2.gF (hs:au P hint sh Γ Pu H I) {n0 n:Nat} {us us':Us} (hu:gW n0 n us) {t:T2} {x:t.ty} {v:TV} {v':Value} (h:t.get H n0 n us v=some (x,us')) (hr:GR Γ Pu I v v'):
  rI P hint n0 n Γ Pu I H us us' (fun Γ'=>GR Γ' Pu I (t.put x).1 v') (t.put x).2:=by
 cases t with
 |one t=>exact T1.gF hs hu h hr
 |agg l=>
  cases hr with
  |agg hr=>exact (Gl hs hu h hr).imp fun Γ' hh=> .agg hh
  |_=>cases h
theorem yz (hs:au P hint sh Γ Pu H I) {n0 n:Nat} {L:DN} {L':AL} (hL:∀ t,GR Γ Pu I (eT L t) (lk L' t)):∀ {l:List (Nat×T2)} {us us':Us} {x:np l},gW n0 n us->getEnv H n0 n L l us=some (x,us')->
  rI P hint n0 n Γ Pu I H us us' (fun Γ'=>∀ t,GR Γ' Pu I (eT (j8 l x).1 t) (lk L' t)) (j8 l x).2:=by
 intro l
 induction l with
 |nil=>
  intro us us' x hu h;unfold getEnv at h;cases h;exact rI.none hu fun _ t=> .undef _
 |cons p r ih=>
  intro us us' x hu h;obtain ⟨k,t⟩:=p;simp only [getEnv] at h;split at h
  .rename_i y us1 h1
   split at h
   .rename_i z us2 h2
    cases h;have g1:=T2.gF hs hu h1 (hL k);have g2:=ih g1.ok h2;refine (g1.trans g2).imp fun Γ' hh t'=>?_
    show GR Γ' Pu I (bif Nat.beq k t' then _ else _) _
    cases hb:Nat.beq k t' with
    |true=>simp_all
    |false=>exact hh.2 t'
   .cases h
  .cases h
def oe (P:Program) (hint:Hint) (bx:Nat) (fi:FI) (ps:List Tmp) (eo body:Code):Prop:=
 ∀ f qs asg' body' fi',J9 P hint bx fi' (.rangeFunc f qs asg' body')->dA body=dA body'->fi'=fi/\qs.toList=ps/\asg'=eo/\body'=body
def MP (P:Program) (hint:Hint):OT->Prop
 | .loop bx _ _ fi _ ps eo body=>oe P hint bx fi ps eo body
 |_=>True
theorem AS {a b:Option Code} (h:vG a b=true):a=b:=by
 unfold vG at h;split at h
 .rfl
 .rfl
 .simp_all
 .cases h
theorem iU {a b:Bool} (h:(bif a then b else !b)=true):b=a:=by grind
theorem OT.gF (hs:au P hint sh Γ Pu H I) {n0 n:Nat} {us us':Us} (hu:gW n0 n us) {t:OT} {x:t.ty} {o:bu} {l:Loc} (hok:MP P hint t) (h:t.get H n0 n us o=some (x,us')) (ho:OR P hint Γ Pu I l o):
  rI P hint n0 n Γ Pu I H us us' (fun Γ'=>OR P hint Γ' Pu I l (t.put x).1) (t.put x).2/\(t.put x).1.cY=o.cY/\∀ b,(t.put x).1.has I l b->o.has I l b:=by
 cases t with
 |cells et tl w=>
  cases o with
  |cells et' cs w'=>
   simp only [OT.get] at h;replace h:=ad h;obtain ⟨hb,h⟩:=h;replace hb:=ae hb;have e1:=beq_true hb.1;have e2:=iU hb.2;subst e1 e2;obtain ⟨b,vs,fz,ex,sd,hp,hg,hr,hw,hpu⟩:=ho;exact ⟨(Gl hs hu h hr).imp fun Γ' hh=>⟨b,vs,fz,ex,sd,hp,hg,hh,hw,hpu⟩,rfl,fun _ h=>False.elim h⟩
  |_=>cases h
 |arr et e w fz em=>
  cases o with
  |arr et' e' xs w' fz' em'=>
   simp only [OT.get] at h;replace h:=ad h;obtain ⟨hb,h⟩:=h;replace hb:=ae hb;obtain ⟨hb,hb4⟩:=hb;replace hb:=ae hb;obtain ⟨hb,hb3⟩:=hb;replace hb:=ae hb;obtain ⟨hb1,hb2⟩:=hb;have e1:=beq_true hb1;have e2:=iU hb2;have e3:=iU hb3;subst e1 e2 e3;split at h
   .rename_i hh _
    subst hh;cases h;exact ⟨rI.none hu fun Γ'=>OR.le hb4 ho,rfl,fun _ h=>False.elim h⟩
   .cases h
  |_=>cases h
 |iter=>
  cases o with
  |iter s p=>
   simp only [OT.get] at h;cases h;exact ⟨rI.none hu fun Γ'=>ho,rfl,fun _ h=>False.elim h⟩
  |_=>cases h
 |nest et e no net ne em=>
  cases o with
  |nest et' e' no' net' ne' xs em' ho'=>
   simp only [OT.get] at h;replace h:=ad h;obtain ⟨hb,h⟩:=h;replace hb:=ae hb;obtain ⟨hb,hb5⟩:=hb;replace hb:=ae hb;obtain ⟨hb,hb4⟩:=hb;replace hb:=ae hb;obtain ⟨hb,hb3⟩:=hb;replace hb:=ae hb;obtain ⟨hb1,hb2⟩:=hb;have q1:=beq_true hb1;have q2:=beq_true hb2;have q3:=beq_true hb3;subst q1 q2 q3;have q5:ho'=none:=by simpa using hb5
   subst q5;split at h
   .rename_i hh h2 _ _
    subst hh;obtain ⟨h2⟩:=h2;subst h2;cases h;exact ⟨rI.none hu fun Γ'=>bo.R7 (bo.le hb4 ho) rfl,rfl,fun b h=>h⟩
   .cases h
  |_=>cases h
 |gw kt gk k net ne=>
  cases o with
  |gw kt' gk' k' net' ne' xs ho'=>
   simp only [OT.get] at h;replace h:=ad h;obtain ⟨hb,h⟩:=h;replace hb:=ae hb;obtain ⟨hb,hb4⟩:=hb;replace hb:=ae hb;obtain ⟨hb,hb3⟩:=hb;replace hb:=ae hb;obtain ⟨hb1,hb2⟩:=hb;have q1:=beq_true hb1;have q2:=iU hb2;have q3:=beq_true hb3;subst q1 q2 q3;have q5:ho'=none:=by simpa using hb4
   subst q5;split at h
   .rename_i h1 h2 _ _
    subst h1 h2;cases h;exact ⟨rI.none hu fun Γ'=>jU.R7 ho,rfl,fun b h=>h⟩
   .cases h
  |_=>cases h
 |map kt gk ge k e em=>
  cases o with
  |map kt' gk' ge' k' e' xs em'=>
   simp only [OT.get] at h;replace h:=ad h;obtain ⟨hb,h⟩:=h;replace hb:=ae hb;obtain ⟨hb,hb3⟩:=hb;replace hb:=ae hb;obtain ⟨hb,hb2⟩:=hb;replace hb:=ae hb;obtain ⟨hb0,hb1⟩:=hb;have e0:=beq_true hb0;have e1:=iU hb1;have e2:=iU hb2;have e3:=iU hb3;subst e0 e1 e2 e3;split at h
   .rename_i h1 h2 _ _
    subst h1 h2;cases h;exact ⟨rI.none hu fun Γ'=>ho,rfl,fun _ h=>False.elim h⟩
   .cases h
  |_=>cases h
 |loop bx st pd fi E ps eo body=>
  cases o with
  |loop fid' st' pd' fi' E' ps' asg' body'=>
   simp only [OT.get] at h;replace h:=ad h;obtain ⟨hb,h⟩:=h;replace hb:=ae hb;obtain ⟨hb,hb4⟩:=hb;replace hb:=ae hb;obtain ⟨hb,hb3⟩:=hb;replace hb:=ae hb;obtain ⟨hb1,hb2⟩:=hb;have e1:=beq_true hb1;have e2:st=st':=by simpa using hb2
   have e3:=AS hb3;have e4:=beq_true hb4;obtain ⟨b,F',hp,hro,hg,hE,f,qs,hin,hqs⟩:=ho;rw [←e1] at hin;obtain ⟨u1,u2,u3,u4⟩:=hok f qs asg' body' fi' hin e4;subst e1 e2 e3 u1 u3 u4;rw [u2] at hqs;subst hqs;exact ⟨(yz hs (fun t=>(hE t).1) hu h).imp fun Γ' hh=>⟨b,F',hp,hro,hg,fun t=>⟨hh t,.undef _⟩,f,qs,hin,u2.symm⟩,rfl,fun _ h=>False.elim h⟩
  |_=>cases h
theorem E6 (hs:au P hint sh Γ Pu H I) {n0 n:Nat}:∀ {l:List (Nat×OT)} {us us':Us} {x:bc l},(∀ p∈l,MP P hint p.2)->gW n0 n us->oK H n0 n l us=some (x,us')->
  rI P hint n0 n Γ Pu I H us us' (fun Γ'=>∀ id o,(id,o)∈(dP l x).1->id<n0/\(∃ p∈l,p.1=id)/\∃ lo o',Γ id=some lo/\OR P hint Γ' Pu I lo o/\H.get id=some o'/\o.cY=o'.cY/\∀ b,o.has I lo b->o'.has I lo b) (dP l x).2:=by
 intro l
 induction l with
 |nil=>
  intro us us' x _ hu h;unfold oK at h;cases h;exact rI.none hu fun _ id o hm=>by cases hm
 |cons p r ih=>
  intro us us' x hok hu h;obtain ⟨id,t⟩:=p;simp only [oK] at h;replace h:=ad h;obtain ⟨hb,h⟩:=h;split at h
  .rename_i o hg
   split at h
   .rename_i y us1 h1
    split at h
    .rename_i z us2 h2
     cases h;obtain ⟨lo,hlo,ho⟩:=hs.obj id o hg;obtain ⟨g1,hm,hhas⟩:=OT.gF hs hu (hok _ List.mem_cons_self) h1 ho;have g2:=ih (fun p hp=>hok p (zan _ hp)) g1.ok h2;refine (g1.trans g2).imp fun Γ' hh id' o' hmem=>?_
     rcases List.mem_cons.1 hmem with hq |hmem
     .cases hq
      exact ⟨c7 hb,⟨_,List.mem_cons_self,rfl⟩,lo,o,hlo,hh.1,hg,hm,hhas⟩
     grind
    .cases h
   .cases h
  .cases h
theorem iy {ck:Nat}:∀ {N:xH} {id:Nat} {s:Nat} {o:bu},(Nl ck N).k9 id=some (s,o)->s=ck/\(id,o)∈N:=by
 intro N
 induction N with
 |nil=>intro id s o h;cases h
 |cons p N ih=>
  intro id s o h;obtain ⟨k,o'⟩:=p;simp only [Nl,Tr.fq,Tr.eI] at h;have hp:=Tr.ag (Nl ck N) k (some (ck,o')) id;unfold Tr.put at hp;rw [hp] at h;split at h
  .grind
  .rw [←Tr.fq] at h
   grind
noncomputable def mb (n0:Nat) (us:Us) (Γ:aN):aN:=fun k=>if k<n0 then Γ k else
 match us.find? (fun p=>Nat.beq p.1 k) with
 |some (_,some (id,off,len),_)=>(Γ id).map (Loc.cut off len)
 |some (_,none,z)=>some ⟨none,0,z,0⟩
 |none=>none
theorem Hk {n0 n:Nat}:∀ {us:Us},gW n0 n us->∀ {c:Nat} {s:Option (Nat×Nat×Nat)} {z:Nat},(c,s,z)∈us->us.find? (fun p=>Nat.beq p.1 c)=some (c,s,z):=by
 intro us
 induction us with
 |nil=>grind
 |cons p us ih=>
  intro hu c s z hm;have hcc:=hu.cc;rw [List.pairwise_cons] at hcc;rcases List.mem_cons.1 hm with rfl |hm
  .simp
  .have hne:p.1≠c:=hcc.1 _ hm
   rw [List.find?_cons,gM hne];have hii:=hu.ii;rw [List.pairwise_cons] at hii;exact ih ⟨fun q hq=>hu.c q (zan _ hq),hcc.2,hii.2⟩ hm
theorem SG {n0 n:Nat} {us:Us} (hu:gW n0 n us):Mr n0 us Γ (mb n0 us Γ):=
 ⟨fun id l h hl=>by unfold mb;grind,fun c s z hm=>by
  have h1:=(hu.c _ hm).1;have h2:=Hk hu hm;unfold mb
  grind⟩
def Tm.ok (P:Program) (hint:Hint) (T:Tm):Prop:=∀ p∈T.fZ,MP P hint p.2
theorem Cs {fZ:List (Nat×OT)}:∀ {us:Us},apart fZ us=true->∀ c id q z,(c,some (id,q),z)∈us->∀ p∈fZ,p.1≠id:=by
 intro us
 induction us with
 |nil=>grind
 |cons q us ih=>
  intro h c id w z hm p hp;obtain ⟨c',s,z'⟩:=q;cases s with
  |some id'=>
   obtain ⟨id',w'⟩:=id';replace h:=ae h;rcases List.mem_cons.1 hm with hq |hm
   .cases hq
    have:=List.all_eq_true.1 h.1 p hp;intro e;rw [e,Nat.beq_refl] at this;cases this
   grind
  |none=>
   rcases List.mem_cons.1 hm with hq |hm
   .cases hq
   .exact ih h c id w z hm p hp
theorem Tm.gF (T:Tm) (hT:T.ok P hint) (hs:au P hint sh Γ Pu H I) {E:GE} {E':En} (he:ER Γ Pu I E E') {x:T.ty} (h:T.get E H=some x):
  ∃ Γ',au P hint sh Γ' Pu (T.H x) I/\ER Γ' Pu I (T.E x) E'/\(∀ id l,id<T.n0->Γ id=some l->Γ' id=some l)/\(∀ b,bk Γ' (T.H x) I b->bk Γ H I b)/\T.n0<=T.n:=by
 unfold Tm.get at h;replace h:=ad h;obtain ⟨hb,h⟩:=h;replace hb:=ae hb;obtain ⟨hb,hb3⟩:=hb;replace hb:=ae hb;obtain ⟨hb1,hb2⟩:=hb;have n1:=aF hb1;have n2:=aF hb2;have n3:=aF hb3;split at h
 .rename_i xe us1 h1
  split at h
  .rename_i xo us h2
   replace h:=ad h;obtain ⟨hap,h⟩:=h;cases h;have g1:=yz hs (fun t=>(he t).1) gW.nil h1;have g2:=E6 hs hT g1.ok h2;have hu:=g2.ok;have hcon:Mr T.n0 us Γ (mb T.n0 us Γ):=SG hu;obtain ⟨r1,q1⟩:=g1.qF _ (hcon.sub g2.sub);obtain ⟨r2,q2⟩:=g2.qF _ hcon
   have all:∀ id o,(T.H (xe,xo)).get id=some o->(id<T.n0/\∃ lo o',Γ id=some lo/\mb T.n0 us Γ id=some lo/\OR P hint (mb T.n0 us Γ) Pu I lo o/\H.get id=some o'/\o.cY=o'.cY/\(∀ b,o.has I lo b->o'.has I lo b)/\∃ p∈T.fZ,p.1=id)\/
     (∃ l s z,mb T.n0 us Γ id=some l/\OR P hint (mb T.n0 us Γ) Pu I l o/\o.cY=true/\(id,s,z)∈us/\(match s with
      |some (id',_)=>∃ o',H.get id'=some o'/\o'.cY=true/\∀ l0 b,Γ id'=some l0->o.has I l b->o'.has I l0 b
      |none=>l.pos=none)):=by
    intro id o hg;unfold GH.get at hg;split at hg
    .rename_i s' o' heq
     cases hg;obtain ⟨_,hm⟩:=iy heq;rcases List.mem_append.1 hm with hm |hm
     .obtain ⟨l,s,z,x1,x2,x3,x4,x5⟩:=q1 id o hm
      exact .inr ⟨l,s,z,x1,x2,x3,g2.sub _ x4,x5⟩
     .rcases List.mem_append.1 hm with hm |hm
      .obtain ⟨a1,a2,lo,o',b1,b2,b3,b4,b5⟩:=r2 id o hm
       exact .inl ⟨a1,lo,o',b1,hcon.low _ _ a1 b1,b2,b3,b4,b5,a2⟩
      .exact .inr (q2 id o hm)
    .cases hg
   have src:∀ id o l b,(T.H (xe,xo)).get id=some o->o.cY=true->mb T.n0 us Γ id=some l->At I l o b->∃ id0 o0 l0,H.get id0=some o0/\o0.cY=true/\Γ id0=some l0/\At I l0 o0 b/\((id0=id/\id<T.n0/\∃ p∈T.fZ,p.1=id)\/∃ q z,(id,some (id0,q),z)∈us):=by
    intro id o l b hg hm hl hat;rcases all id o hg with ⟨a1,lo,o',b1,b2,_,b3,b4,b6,b5⟩ |⟨l',s,z,b1,_,b2,b3,b4⟩
    .cases hl.symm.trans b2
     exact ⟨id,o',_,b3,b4▸hm,b1,hat.imp (fun h=>h) (b6 b),.inl ⟨rfl,a1,b5⟩⟩
    .cases hl.symm.trans b1
     cases s with
     |none=>
      simp only at b4
      exfalso
      rcases hat with ⟨y,hp⟩ |hh
      .grind
      .cases o with
       |nest=>obtain ⟨i,_,_,b0,o0,_,_,_,_,_,hp',_⟩:=hh;grind
       |gw=>obtain ⟨i,x,b0,o,_,_,_,_,_,hp',_⟩:=hh;grind
       |_=>cases hh
     |some q=>
      obtain ⟨id',off,len⟩:=q;obtain ⟨o',c1,c2,c3⟩:=b4;have:=hcon.us _ _ _ b3;simp only at this;have h4:=this.symm.trans hl;cases hg0:Γ id' with
      |none=>grind
      |some l0=>
       rw [hg0] at h4;cases h4;refine ⟨id',o',l0,c1,c2,hg0,?_,.inr ⟨_,z,b3⟩⟩;rcases hat with ⟨y,hp⟩ |hh
       .simp only [Loc.cut,Option.map_eq_some_iff] at hp
        obtain ⟨p,hp1,hp2⟩:=hp;cases hp2;exact .inl ⟨p.2,hp1⟩
       .exact .inr (c3 l0 b hg0 hh)
   refine ⟨mb T.n0 us Γ,⟨?_,?_,?_,?_,hs.fresh,hs.pu,hs.ro,Nat.le_trans n3 n2,?_,?_,hs.FT⟩,fun t=>⟨r1 t,.undef _⟩,fun id l hlt hl=>hcon.low id l hlt hl,?_,n2⟩
   .grind
   .intro i1 i2 o1 o2 l1 l2 b hg1 hg2 hm1 hm2 hl1 hl2 hp1 hp2
    obtain ⟨j1,p1,m1,c1,c2,c3,c5,c4⟩:=src i1 o1 l1 b hg1 hm1 hl1 hp1;obtain ⟨j2,p2,m2,d1,d2,d3,d5,d4⟩:=src i2 o2 l2 b hg2 hm2 hl2 hp2;have hj:=hs.inj j1 j2 p1 p2 m1 m2 b c1 d1 c2 d2 c3 d3 c5 d5;subst hj;rcases c4 with ⟨e1,e2,e3⟩ |⟨q1,z1,e1⟩<;>rcases d4 with ⟨f1,f2,f3⟩ |⟨q2,z2,f1⟩
    .omega
    .obtain ⟨q,hq1,hq2⟩:=e3
     exact absurd (hq2.trans e1.symm) (Cs hap _ _ _ _ f1 q hq1)
    .obtain ⟨q,hq1,hq2⟩:=f3
     exact absurd (hq2.trans f1.symm) (Cs hap _ _ _ _ e1 q hq1)
    .-- two lists that are handed on under one name
     have key:∀ {us:Us},us.Pairwise (fun p q=>∀ a b,p.2.1=some a->q.2.1=some b->a.1≠b.1)->∀ {a b:Nat} {id z w:Nat} {q1 q2:Nat×Nat},(a,some (id,q1),z)∈us->(b,some (id,q2),w)∈us->a=b:=by
      intro us
      induction us with
      |nil=>grind
      |cons p us ih=>
       intro hpw a b id z w q1 q2 h1 h2;rw [List.pairwise_cons] at hpw
       grind
     exact key hu.ii e1 f1
   .rintro b ⟨id,o,l,hg,hm,hl,hp⟩ hpu
    obtain ⟨j1,p1,m1,c1,c2,c3,c5,_⟩:=src id o l b hg hm hl hp;exact hs.sep b ⟨j1,p1,m1,c1,c2,c3,c5⟩ hpu
   .intro id l hl
    show id<T.n
    unfold mb at hl;split at hl
    .omega
    .cases hf:us.find? (fun p=>Nat.beq p.1 id) with
     |none=>grind
     |some p=>
      have h3:=List.find?_some hf;have h4:=List.mem_of_find?_eq_some hf;have:=(hu.c p h4).2
      simp_all
   .intro g hg
    obtain ⟨l,h3,h4⟩:=hs.cq g hg;exact ⟨l,hcon.low _ _ (Nat.lt_of_lt_of_le hg n3) h3,h4⟩
   .intro id s hst
    unfold GH.aH at hst;split at hst
    .rename_i s' o' heq
     cases hst;obtain ⟨h5,_⟩:=iy heq
     show s<T.ck+1
     omega
    .cases hst
   .rintro b ⟨id,o,l,hg,hm,hl,hp⟩
    obtain ⟨j1,p1,m1,c1,c2,c3,c5,_⟩:=src id o l b hg hm hl hp;exact ⟨j1,p1,m1,c1,c2,c3,c5⟩
  .cases h
 .cases h
theorem Ex.Sm (T:Tm) {Γ0:aN} {Pu0:Nat->Prop} {H0:GH} {I0:IH} (hs0:au P hint sh Γ0 Pu0 H0 I0) (h:Ex O Γ0 Pu0 H0 I0 Γ Pu H I) {x:T.ty} (hn:H0.n<=T.n0) (hck:H0.ck<=T.ck) (h1:∀ id l,id<T.n0->Γ id=some l->Γ' id=some l) (h2:∀ b,bk Γ' (T.H x) I b->bk Γ H I b) (h3:T.n0<=T.n):
  Ex O Γ0 Pu0 H0 I0 Γ' Pu (T.H x) I where
 g:=fun id l hl=>h1 id l (Nat.lt_of_lt_of_le (hs0.aT id l hl) hn) (h.g id l hl)
 hn:=Nat.le_trans hn h3
 n:=h.n
 p:=h.p
 cE:=h.cE
 own:=fun b hb ho=>h.own b hb (h2 b ho)
 pn:=h.pn
 ck:=Nat.le_succ_of_le hck
 wx:=fun id _=>by
  unfold GH.aH;split
  .rename_i s' o' heq
   obtain ⟨h5,_⟩:=iy heq;exact .inr (.inr ⟨s',rfl,by omega⟩)
  grind
 jv:=fun id l b y s hs1 hs2 hl hp=>by
  have hlt:=hs0.st id s hs1;unfold GH.aH at hs2;split at hs2
  .rename_i s' o' heq
   cases hs2;obtain ⟨h5,_⟩:=iy heq;omega
  .cases hs2
end
end Go.Gv
