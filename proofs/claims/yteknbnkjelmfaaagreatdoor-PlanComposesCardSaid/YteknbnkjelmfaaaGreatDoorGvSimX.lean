/- The two heaps side by side, and what each kind of step does to them. -/
import Derived.Test.YteknbnkjelmfaaaGreatDoorGvRel
set_option linter.unusedSimpArgs false
set_option linter.unusedVariables false
namespace Go.Gv
open Go Go.Iv
def ER (Γ:aN) (Pu:Nat->Prop) (I:IH) (E:GE) (E':En):Prop:=∀ t,GR Γ Pu I (eT E.loc t) (lk E'.loc t)/\GR Γ Pu I (eT E.tmp t) (lk E'.tmp t)
inductive Sub:Code->Code->Prop
 |refl (c:Code):Sub c c
 |MY {a b c:Code}:Sub c a->Sub c (.seq a b)
 |NA {a b c:Code}:Sub c b->Sub c (.seq a b)
 |CJ {o:Operand} {a b c:Code}:Sub c a->Sub c (.cond o a b)
 |De {o:Operand} {a b c:Code}:Sub c b->Sub c (.cond o a b)
 |block {i:Nat} {a c:Code}:Sub c a->Sub c (.block i a)
 |loop {a c:Code}:Sub c a->Sub c (.loop a)
 |eo {f:Operand} {ps:Array Tmp} {a b c:Code}:Sub c a->Sub c (.rangeFunc f ps a b)
 |body {f:Operand} {ps:Array Tmp} {a b c:Code}:Sub c b->Sub c (.rangeFunc f ps a b)
 |scope {a c:Code}:Sub c a->Sub c (.scope a)
theorem Sub.trans {a b c:Code} (h:Sub a b) (k:Sub b c):Sub a c:=by
 induction k with
 |refl=>exact h
 |MY _ ih=>exact .MY (ih h)
 |NA _ ih=>exact .NA (ih h)
 |CJ _ ih=>exact .CJ (ih h)
 |De _ ih=>exact .De (ih h)
 |block _ ih=>exact .block (ih h)
 |loop _ ih=>exact .loop (ih h)
 |eo _ ih=>exact .eo (ih h)
 |body _ ih=>exact .body (ih h)
 |scope _ ih=>exact .scope (ih h)
def J9 (P:Program) (hint:Hint) (bx:Nat) (fi:FI) (c:Code):Prop:=∃ fn b,P.funcs[bx]? =some fn/\fn.body=some b/\fi=pE hint bx fn/\Sub c b
theorem J9.sub {P:Program} {hint:Hint} {bx:Nat} {fi:FI} {c c':Code} (h:J9 P hint bx fi c) (hc:Sub c' c):J9 P hint bx fi c':=by
 obtain ⟨fn,b,h1,h2,h3,h4⟩:=h;exact ⟨fn,b,h1,h2,h3,hc.trans h4⟩
def bu.cY:bu->Bool
 | .cells _ _ w=>w
 | .arr _ _ _ _ fz _=> !fz
 |_=>true
section
variable {P:Program} {hint:Hint} {sh:bU}
def im (Pu:Nat->Prop) (I:IH) (l:Loc) (et:TypeId) (e:Sh) (xs:List e.ty) (w fz:Bool) (em:Em):Prop:=
 l.len=List.length xs/\l.sz=e.sz/\0<e.sz/\((l.pos=none/\xs= []/\em≠ .no)\/∃ b o vs f ex sd,l.pos=some (b,o)/\(em= .ex->xs≠ [])/\I.get b=some (.cells vs et f ex sd)/\vs.length=l.tot/\o+List.length xs*e.sz<=vs.length/\
   (∀ i x,xs[i]? =some x->bA Pu I e x ((vs.drop (o+i*e.sz)).take e.sz))/\(fz=false->ep<=b/\sd=false/\f<=o+List.length xs*e.sz/\(w=true->f<=o))/\(fz=true->Pu b))
def pj:Value->Option Nat
 | .slice (some a) _ _=>some a.block
 |_=>none
def NB (I:IH) (l:Loc) (sz no:Nat) (hole:Option Nat) (b i:Nat):Prop:=
 hole≠some i/\i<l.len/\∃ b0 o vs et f ex sd,l.pos=some (b0,o)/\I.get b0=some (.cells vs et f ex sd)/\(vs[o+i*sz+no]?).bind pj=some b
def bo (Γ:aN) (Pu:Nat->Prop) (I:IH) (l:Loc) (et:TypeId) (e:Sh) (no:Nat) (net:TypeId) (ne:Sh) (xs:List e.ty) (em:Em) (ho:Option (Nat×Nat×e.ty)):Prop:=
 l.len=List.length xs/\l.sz=e.sz/\0<e.sz/\JA e no ne=true/\((l.pos=none/\xs= []/\em≠ .no/\ho=none)\/∃ b o vs f ex,l.pos=some (b,o)/\(em= .ex->xs≠ [])/\I.get b=some (.cells vs et f ex false)/\vs.length=l.tot/\o+List.length xs*e.sz<=vs.length/\ep<=b/\f<=o/\
   (∀ i x,xs[i]? =some x->br Γ Pu I ((e.cV x).set no .undef) ((vs.drop (o+i*e.sz)).take e.sz))/\
   (∀ i x v,xs[i]? =some x->ho.map (·.1)≠some i->vs[o+i*e.sz+no]? =some v->∃ l',im Pu I l' net ne (aL e no ne x) true false .ex/\fF l' 0 l'.len v)/\
   (∀ i n x,ho=some (i,n,x)->xs[i]? =some x/\∃ ln v,Γ n=some ln/\vs[o+i*e.sz+no]? =some v/\fF ln 0 ln.len v)/\
   (∀ i j b',NB I l e.sz no (ho.map (·.1)) b' i->NB I l e.sz no (ho.map (·.1)) b' j->i=j)/\∀ i,¬ NB I l e.sz no (ho.map (·.1)) b i)
def MB (I:IH) (l:Loc) {k ne:Sh} (xs:List (k.ty×List ne.ty)) (hole:Option k.ty) (b i:Nat):Prop:=
 ∃ (x:k.ty×List ne.ty) (b0 o:Nat) (es:List MapEntry) (ck:Nat) (n:MapEntry),xs[i]? =some x/\hole≠some x.1/\l.pos=some (b0,o)/\I.get b0=some (.map es ck)/\es[i]? =some n/\pj n.val=some b
def jU (P:Program) (Γ:aN) (Pu:Nat->Prop) (I:IH) (l:Loc) (kt:TypeId) (gk:Bool) (k:Sh) (net:TypeId) (ne:Sh) (xs:List (k.ty×List ne.ty)) (ho:Option (k.ty×Nat)):Prop:=
 ni P kt gk k=true/\0<ne.sz/\(∀ (i j:Nat) (x y:k.ty×List ne.ty),xs[i]? =some x->xs[j]? =some y->x.1=y.1->i=j)/\∃ (b:Nat) (es:List MapEntry) (ck:Nat),l.pos=some (b,0)/\ep<=b/\I.get b=some (.map es ck)/\es.length=List.length xs/\
   (∀ (i:Nat) (x:k.ty×List ne.ty) (n:MapEntry),xs[i]? =some x->es[i]? =some n->sF Pu I gk k x.1 n.key)/\
   (∀ (i:Nat) (x:k.ty×List ne.ty) (n:MapEntry),xs[i]? =some x->es[i]? =some n->ho.map (·.1)≠some x.1->∃ l',im Pu I l' net ne x.2 true false .ex/\fF l' 0 l'.len n.val)/\
   (∀ y m,ho=some (y,m)->∃ ln,Γ m=some ln/\∀ (i:Nat) (x:k.ty×List ne.ty) (n:MapEntry),xs[i]? =some x->es[i]? =some n->x.1=y->fF ln 0 ln.len n.val)/\
   ∀ i j b',MB I l xs (ho.map (·.1)) b' i->MB I l xs (ho.map (·.1)) b' j->i=j
def OR (P:Program) (hint:Hint) (Γ:aN) (Pu:Nat->Prop) (I:IH) (l:Loc):bu->Prop
 | .cells et cs w=>∃ b vs fz ex sd,l.pos=some (b,0)/\I.get b=some (.cells vs et fz ex sd)/\br Γ Pu I cs vs/\(w=true->ep<=b/\fz=0/\ex=true/\sd=false)/\(w=false->Pu b)
 | .arr et e xs w fz em=>im Pu I l et e xs w fz em
 | .iter s pos=>∃ b,l.pos=some (b,0)/\ep<=b/\I.get b=some (.eM (ba s) pos)
 | .nest et e no net ne xs em ho=>bo Γ Pu I l et e no net ne xs em ho
 | .map kt gk ge k e xs em=>ni P kt gk k=true/\((l.pos=none/\xs= []/\em=true)\/∃ b es ck,l.pos=some (b,0)/\ep<=b/\(em=true->xs≠ [])/\I.get b=some (.map es ck)/\mR Pu I gk ge k e xs es)
 | .gw kt gk k net ne xs ho=>jU P Γ Pu I l kt gk k net ne xs ho
 | .loop bx st pd fi E ps eo body=>∃ b E',l.pos=some (b,0)/\ep<=b/\I.get b=some (.loop st pd fi E' ps eo body)/\ER Γ Pu I E E'/\∃ f qs,J9 P hint bx fi (.rangeFunc f qs eo body)/\ps=Array.toList qs
def bu.has (I:IH) (l:Loc) (b:Nat):bu->Prop
 | .nest _ e no _ _ _ _ ho=>∃ i,NB I l e.sz no (ho.map (·.1)) b i
 | .gw _ _ _ _ _ xs ho=>∃ i,MB I l xs (ho.map (·.1)) b i
 |_=>False
def At (I:IH) (l:Loc) (o:bu) (b:Nat):Prop:=(∃ x,l.pos=some (b,x))\/o.has I l b
def bk (Γ:aN) (H:GH) (I:IH) (b:Nat):Prop:=∃ id o l,H.get id=some o/\o.cY=true/\Γ id=some l/\At I l o b
theorem bk.pos {Γ:aN} {H:GH} {I:IH} {id:Nat} {o:bu} {l:Loc} {b x:Nat} (hg:H.get id=some o) (hm:o.cY=true) (hl:Γ id=some l) (hp:l.pos=some (b,x)):bk Γ H I b:=⟨id,o,l,hg,hm,hl,.inl ⟨x,hp⟩⟩
structure au (P:Program) (hint:Hint) (sh:bU) (Γ:aN) (Pu:Nat->Prop) (H:GH) (I:IH):Prop where
 obj:∀ id o,H.get id=some o->∃ l,Γ id=some l/\OR P hint Γ Pu I l o
 inj:∀ id id' o o' l l' b,H.get id=some o->H.get id'=some o'->o.cY=true->o'.cY=true->Γ id=some l->Γ id'=some l'->At I l o b->At I l' o' b->id=id'
 sep:∀ b,bk Γ H I b->¬ Pu b
 aT:∀ id l,Γ id=some l->id<H.n
 fresh:∀ b,I.n<=b->I.get b=none
 pu:∀ b,Pu b->∃ cs et fz ex sd,I.get b=some (.cells cs et fz ex sd)
 ro:ep<=I.n
 gn:bI<=H.n
 cq:∀ g,g<bI->∃ l,Γ g=some l/\l.pos=some (g,0)
 st:∀ id s,H.aH id=some s->s<H.ck
 FT:∀ g T,g<bI->sh.tb g=some T->Pu g/\∃ vs et fz ex sd,I.get g=some (.cells vs et fz ex sd)/\ex=true/\vs.length=List.length T.xs*T.e.sz/\∀ i x,T.xs[i]? =some x->i*T.e.sz+T.e.sz<=vs.length/\bA Pu I T.e x ((vs.drop (i*T.e.sz)).take T.e.sz)
structure Ex (O:Nat->Prop) (Γ:aN) (Pu:Nat->Prop) (H:GH) (I:IH) (Γ1:aN) (Pu1:Nat->Prop) (H1:GH) (I1:IH):Prop where
 g:∀ id l,Γ id=some l->Γ1 id=some l
 hn:H.n<=H1.n
 n:I.n<=I1.n
 p:∀ b,Pu b->Pu1 b
 cE:∀ b,b<I.n->¬ O b->I1.get b=I.get b
 own:∀ b,b<I.n->bk Γ1 H1 I1 b->O b
 pn:∀ b,b<I.n->Pu1 b->Pu b\/O b
 ck:H.ck<=H1.ck
 wx:∀ id,id<H.n->H1.aH id=none\/H1.aH id=H.aH id\/∃ s,H1.aH id=some s/\H.ck<=s
 jv:∀ id l b x s,H.aH id=some s->H1.aH id=some s->Γ id=some l->l.pos=some (b,x)->I1.get b=I.get b
variable {O:Nat->Prop} {Γ Γ1 Γ2:aN} {Pu Pu1 Pu2:Nat->Prop} {H H1 H2:GH} {I I1 I2:IH}
theorem au.nK (hs:au P hint sh Γ Pu H I) (hp:∀ b,Pu b->Pu1 b) (hi:∀ b,Pu b->I1.get b=I.get b) (g:Nat) (T:Tb) (hg:g<bI) (hT:sh.tb g=some T):
  Pu1 g/\∃ vs et fz ex sd,I1.get g=some (.cells vs et fz ex sd)/\ex=true/\vs.length=List.length T.xs*T.e.sz/\∀ i x,T.xs[i]? =some x->i*T.e.sz+T.e.sz<=vs.length/\bA Pu1 I1 T.e x ((vs.drop (i*T.e.sz)).take T.e.sz):=by
 obtain ⟨h1,vs,et,fz,ex,sd,h2,h4,h5,h3⟩:=hs.FT g T hg hT;exact ⟨hp g h1,vs,et,fz,ex,sd,(hi g h1).trans h2,h4,h5,fun i x hx=>⟨(h3 i x hx).1,(h3 i x hx).2.mono hp hi⟩⟩
theorem au.lt (h:au P hint sh Γ Pu H I) {b:Nat} {o:bN} (hb:I.get b=some o):b<I.n:=
 Nat.lt_of_not_le fun hn=>by rw [h.fresh b hn] at hb;cases hb
theorem im.mono (hp:∀ b,Pu b->Pu1 b) (hi:∀ b,Pu b->I1.get b=I.get b) {l:Loc} {et:TypeId} {e:Sh} {xs:List e.ty} {w fz:Bool} {em:Em} (hb:∀ b x,l.pos=some (b,x)->I1.get b=I.get b) (h:im Pu I l et e xs w fz em):im Pu1 I1 l et e xs w fz em:=by
 obtain ⟨h1,h2,h3,h4 |⟨b,o,vs,f,ex,sd,hp',he,hg,ht,hl,hx,hw,hu⟩⟩:=h
 .exact ⟨h1,h2,h3,.inl h4⟩
 .exact ⟨h1,h2,h3,.inr ⟨b,o,vs,f,ex,sd,hp',he,(hb b o hp').trans hg,ht,hl,fun i x hx'=>(hx i x hx').mono hp hi,hw,fun x=>hp b (hu x)⟩⟩
theorem tt {l:Loc} {v:Value} {b:Nat} (h:fF l 0 l.len v) (hb:pj v=some b):∃ o,l.pos=some (b,o):=by
 unfold fF at h;split at h
 .rw [h.1] at hb;cases hb
 .rename_i b' o hp
  obtain ⟨cap,rfl,_⟩:=h;cases hb
  grind
theorem mO {l:Loc} {v:Value} {b o:Nat} (h:fF l 0 l.len v) (hb:l.pos=some (b,o)):pj v=some b:=by
 unfold fF at h;rw [hb] at h;obtain ⟨cap,rfl,_⟩:=h;rfl
theorem NB.congr {l:Loc} {sz no:Nat} {hole:Option Nat} {b i:Nat} (hb:∀ b x,l.pos=some (b,x)->I1.get b=I.get b) (h:NB I1 l sz no hole b i):NB I l sz no hole b i:=by
 obtain ⟨h1,h2,b0,o,vs,et,f,ex,sd,hp,hg,hv⟩:=h;exact ⟨h1,h2,b0,o,vs,et,f,ex,sd,hp,(hb b0 o hp).symm.trans hg,hv⟩
theorem MB.congr {l:Loc} {k ne:Sh} {xs:List (k.ty×List ne.ty)} {hole:Option k.ty} {b i:Nat} (hb:∀ b x,l.pos=some (b,x)->I1.get b=I.get b) (h:MB I1 l xs hole b i):MB I l xs hole b i:=by
 obtain ⟨x,b0,o,es,ck,n,h1,h2,h3,h4,h5⟩:=h;exact ⟨x,b0,o,es,ck,n,h1,h2,h3,(hb b0 o h3).symm.trans h4,h5⟩
theorem At.congr {l:Loc} {o:bu} {b:Nat} (hb:∀ b x,l.pos=some (b,x)->I1.get b=I.get b) (h:At I1 l o b):At I l o b:=by
 rcases h with h |h
 .exact .inl h
 .cases o with
  |nest et e no net ne xs em ho=>obtain ⟨i,hi⟩:=h;exact .inr ⟨i,hi.congr hb⟩
  |gw kt gk k net ne xs ho=>obtain ⟨i,hi⟩:=h;exact .inr ⟨i,hi.congr hb⟩
  |_=>cases h
theorem bo.at {l:Loc} {et:TypeId} {e:Sh} {no:Nat} {net:TypeId} {ne:Sh} {xs:List e.ty} {em:Em} {ho:Option (Nat×Nat×e.ty)} (h:bo Γ Pu I l et e no net ne xs em ho) {b i:Nat} (hn:NB I l e.sz no (ho.map (·.1)) b i):
  ∃ x v l' o',xs[i]? =some x/\im Pu I l' net ne (aL e no ne x) true false .ex/\fF l' 0 l'.len v/\l'.pos=some (b,o'):=by
 obtain ⟨h1,h2,h3,h4,h5 |⟨b0,o,vs,f,ex,hp,he,hg,ht,hl,hro,hf,hx,hy,hh,hd,hself⟩⟩:=h
 .obtain ⟨_,_,b0,o,_,_,_,_,_,hp,_⟩:=hn
  grind
 .obtain ⟨n1,n2,b1,o1,vs1,et1,f1,ex1,sd1,hp1,hg1,hv1⟩:=hn
  cases hp.symm.trans hp1;cases hg.symm.trans hg1;have hi:i<xs.length:=by rw [←h1];exact n2
  cases hv:vs[o+i*e.sz+no]? with
  |none=>grind
  |some v=>
   rw [hv] at hv1;obtain ⟨l',a1,a2⟩:=hy i _ v (zam hi) n1 hv;obtain ⟨o',ho'⟩:=tt a2 hv1
   grind
theorem jU.at {l:Loc} {kt:TypeId} {gk:Bool} {k:Sh} {net:TypeId} {ne:Sh} {xs:List (k.ty×List ne.ty)} {ho:Option (k.ty×Nat)} (h:jU P Γ Pu I l kt gk k net ne xs ho) {b i:Nat} (hn:MB I l xs (ho.map (·.1)) b i):
  ∃ x v l' o',xs[i]? =some x/\im Pu I l' net ne x.2 true false .ex/\fF l' 0 l'.len v/\l'.pos=some (b,o'):=by
 obtain ⟨h1,h2,h3,b0,es,ck,hp,hro,hg,hl,hk,hx,hh,hd⟩:=h;obtain ⟨x,b1,o1,es1,ck1,n,n1,n2,n3,n4,n5,n6⟩:=hn;cases hp.symm.trans n3;cases hg.symm.trans n4;obtain ⟨l',a1,a2⟩:=hx i x n n1 n5 n2;obtain ⟨o',ho'⟩:=tt a2 n6
 grind
theorem im.get {l:Loc} {et:TypeId} {e:Sh} {xs:List e.ty} {w fz:Bool} {em:Em} (h:im Pu I l et e xs w fz em) {b x:Nat} (hp:l.pos=some (b,x)):∃ vs f ex sd,I.get b=some (.cells vs et f ex sd):=by
 obtain ⟨_,_,_,h4 |⟨b',o,vs,f,ex,sd,hp',he,hg,_⟩⟩:=h
 .rw [h4.1] at hp;cases hp
 grind
theorem OR.zi {l:Loc} {o:bu} (ho:OR P hint Γ Pu I l o) {b:Nat} (hb:At I l o b):∃ io,I.get b=some io:=by
 rcases hb with ⟨x,hp⟩ |hb
 .cases o with
  |cells et cs w=>obtain ⟨b',vs,fz,ex,sd,hp',hb',_⟩:=ho;grind
  |arr et e xs w fz em=>obtain ⟨vs,f,ex,sd,h⟩:=im.get ho hp;grind
  |iter s pos=>obtain ⟨b',hp',_,hb'⟩:=ho;grind
  |nest et e no net ne xs em ho'=>
   obtain ⟨_,_,_,_,h1 |⟨b',o,vs,f,ex,hp',_,hb',_⟩⟩:=ho
   .rw [h1.1] at hp;cases hp
   grind
  |map kt gk ge k e xs em=>
   obtain ⟨_,⟨h1,_⟩ |⟨b',es,ck,hp',_,_,hb',_⟩⟩:=ho
   .rw [h1] at hp;cases hp
   grind
  |gw kt gk k net ne xs ho'=>obtain ⟨_,_,_,b',es,ck,hp',_,hb',_⟩:=ho;grind
  |loop bx st pd fi E ps eo body=>obtain ⟨b',E',hp',_,hb',_⟩:=ho;grind
 .cases o with
  |nest et e no net ne xs em ho'=>
   obtain ⟨i,hi⟩:=hb;obtain ⟨x,v,l',o',_,h2,_,h4⟩:=bo.at ho hi;obtain ⟨vs,f,ex,sd,h⟩:=h2.get h4
   grind
  |gw kt gk k net ne xs ho'=>
   obtain ⟨i,hi⟩:=hb;obtain ⟨x,v,l',o',_,h2,_,h4⟩:=jU.at ho hi;obtain ⟨vs,f,ex,sd,h⟩:=h2.get h4
   grind
  |_=>cases hb
theorem au.uX (h:au P hint sh Γ Pu H I) {b:Nat} (hb:bk Γ H I b):∃ o,I.get b=some o:=by
 obtain ⟨id,o,l,hg,hm,hl,hat⟩:=hb;obtain ⟨l',hl',ho⟩:=h.obj id o hg;cases hl.symm.trans hl';exact ho.zi hat
theorem au.bJ (h:au P hint sh Γ Pu H I) {b:Nat} (hb:bk Γ H I b):b<I.n:=by
 obtain ⟨o,ho⟩:=h.uX hb;exact h.lt ho
theorem au.Td (h:au P hint sh Γ Pu H I) (id id':Nat) (o o':bu) (l l':Loc) (b x x':Nat) (h1:H.get id=some o) (h2:H.get id'=some o') (h3:o.cY=true) (h4:o'.cY=true) (h5:Γ id=some l) (h6:Γ id'=some l') (h7:l.pos=some (b,x)) (h8:l'.pos=some (b,x')):id=id':=
 h.inj id id' o o' l l' b h1 h2 h3 h4 h5 h6 (.inl ⟨x,h7⟩) (.inl ⟨x',h8⟩)
theorem au.iT (h:au P hint sh Γ Pu H I) {b:Nat} (hb:Pu b):b<I.n:=by
 obtain ⟨cs,et,fz,ex,sd,hg⟩:=h.pu b hb;exact h.lt hg
theorem Ex.refl (_h:au P hint sh Γ Pu H I):Ex (bk Γ H I) Γ Pu H I Γ Pu H I:=
 ⟨fun _ _ x=>x,zal _,zal _,fun _ x=>x,fun _ _ _=>rfl,fun _ _ x=>x,fun _ _ x=> .inl x,zal _,fun _ _=> .inr (.inl rfl),fun _ _ _ _ _ _ _ _ _=>rfl⟩
theorem Ex.cy (hs:au P hint sh Γ Pu H I) (h:Ex (bk Γ H I) Γ Pu H I Γ1 Pu1 H1 I1):cp Γ Pu I Γ1 Pu1 I1:=
 ⟨h.g,h.p,fun b hb=>h.cE b (hs.iT hb) fun ho=>hs.sep b ho hb⟩
theorem Ex.trans (hs:au P hint sh Γ Pu H I) (_h1:au P hint sh Γ1 Pu1 H1 I1) (h:Ex O Γ Pu H I Γ1 Pu1 H1 I1) (k:Ex (bk Γ1 H1 I1) Γ1 Pu1 H1 I1 Γ2 Pu2 H2 I2):Ex O Γ Pu H I Γ2 Pu2 H2 I2 where
 g:=fun id l x=>k.g id l (h.g id l x)
 hn:=Nat.le_trans h.hn k.hn
 n:=Nat.le_trans h.n k.n
 p:=fun b x=>k.p b (h.p b x)
 cE:=fun b hb ho=>(k.cE b (Nat.lt_of_lt_of_le hb h.n) fun x=>ho (h.own b hb x)).trans (h.cE b hb ho)
 own:=fun b hb x=>h.own b hb (k.own b (Nat.lt_of_lt_of_le hb h.n) x)
 pn:=fun b hb x=>(k.pn b (Nat.lt_of_lt_of_le hb h.n) x).elim (h.pn b hb) fun y=> .inr (h.own b hb y)
 ck:=Nat.le_trans h.ck k.ck
 wx:=fun id hid=>by
  rcases k.wx id (Nat.lt_of_lt_of_le hid h.hn) with x |x |⟨s,x,y⟩
  .exact .inl x
  .rw [x];exact h.wx id hid
  .exact .inr (.inr ⟨s,x,Nat.le_trans h.ck y⟩)
 jv:=fun id l b x s hs0 hs2 hl hp=>by
  have hid:=hs.aT id l hl;have hlt:=hs.st id s hs0;rcases k.wx id (Nat.lt_of_lt_of_le hid h.hn) with y |y |⟨s',y,z⟩
  .grind
  .rw [y] at hs2
   exact (k.jv id l b x s hs2 (y.trans hs2) (h.g id l hl) hp).trans (h.jv id l b x s hs0 hs2 hl hp)
  .rw [y] at hs2;cases hs2
   have:=h.ck;omega
theorem ER.mono (hk:cp Γ Pu I Γ1 Pu1 I1) {E:GE} {E':En} (h:ER Γ Pu I E E'):ER Γ1 Pu1 I1 E E':=fun t=>⟨(h t).1.mono hk,(h t).2.mono hk⟩
theorem bo.mono (hk:cp Γ Pu I Γ1 Pu1 I1) {l:Loc} {et:TypeId} {e:Sh} {no:Nat} {net:TypeId} {ne:Sh} {xs:List e.ty} {em:Em} {ho:Option (Nat×Nat×e.ty)} (hb:∀ b,At I l (.nest et e no net ne xs em ho) b->I1.get b=I.get b) (h:bo Γ Pu I l et e no net ne xs em ho):bo Γ1 Pu1 I1 l et e no net ne xs em ho:=by
 have hpos:∀ b x,l.pos=some (b,x)->I1.get b=I.get b:=fun b x hp=>hb b (.inl ⟨x,hp⟩)
 obtain ⟨h1,h2,h3,h4,h5 |⟨b0,o,vs,f,ex,hp,he,hg,ht,hl,hro,hf,hx,hy,hh,hd,hself⟩⟩:=h
 .exact ⟨h1,h2,h3,h4,.inl h5⟩
 .refine ⟨h1,h2,h3,h4,.inr ⟨b0,o,vs,f,ex,hp,he,(hpos b0 o hp).trans hg,ht,hl,hro,hf,fun i x hi=>(hx i x hi).mono hk,fun i x v hi hne hv=>?_,fun i n x hn=>?_,fun i j b' n1 n2=>hd i j b' (n1.congr hpos) (n2.congr hpos),fun i n1=>hself i (n1.congr hpos)⟩⟩
  .obtain ⟨l',a1,a2⟩:=hy i x v hi hne hv
   refine ⟨l',a1.mono hk.p hk.i fun b x' hp'=>hb b (.inr ⟨i,hne,?_,b0,o,vs,et,f,ex,false,hp,hg,?_⟩),a2⟩
   .grind
   .rw [hv];exact mO a2 hp'
  .obtain ⟨a1,ln,v,a2,a3,a4⟩:=hh i n x hn
   exact ⟨a1,ln,v,hk.g _ _ a2,a3,a4⟩
theorem jU.mono (hk:cp Γ Pu I Γ1 Pu1 I1) {l:Loc} {kt:TypeId} {gk:Bool} {k:Sh} {net:TypeId} {ne:Sh} {xs:List (k.ty×List ne.ty)} {ho:Option (k.ty×Nat)} (hb:∀ b,At I l (.gw kt gk k net ne xs ho) b->I1.get b=I.get b) (h:jU P Γ Pu I l kt gk k net ne xs ho):jU P Γ1 Pu1 I1 l kt gk k net ne xs ho:=by
 have hpos:∀ b x,l.pos=some (b,x)->I1.get b=I.get b:=fun b x hp=>hb b (.inl ⟨x,hp⟩)
 obtain ⟨h1,h2,h3,b0,es,ck,hp,hro,hg,hl,hkk,hx,hh,hd⟩:=h;refine ⟨h1,h2,h3,b0,es,ck,hp,hro,(hpos b0 0 hp).trans hg,hl,fun i x n a b=>(hkk i x n a b).mono hk.p hk.i,fun i x n hi hn hne=>?_,fun y m hm=>?_,fun i j b' n1 n2=>hd i j b' (n1.congr hpos) (n2.congr hpos)⟩
 .obtain ⟨l',a1,a2⟩:=hx i x n hi hn hne
  exact ⟨l',a1.mono hk.p hk.i fun b x' hp'=>hb b (.inr ⟨i,x,b0,0,es,ck,n,hi,hne,hp,hg,hn,mO a2 hp'⟩),a2⟩
 .obtain ⟨ln,a1,a2⟩:=hh y m hm
  exact ⟨ln,hk.g _ _ a1,a2⟩
theorem OR.mono (hk:cp Γ Pu I Γ1 Pu1 I1) {l:Loc} {o:bu} (hb:∀ b,At I l o b->I1.get b=I.get b) (h:OR P hint Γ Pu I l o):OR P hint Γ1 Pu1 I1 l o:=by
 have hpos:∀ b x,l.pos=some (b,x)->I1.get b=I.get b:=fun b x hp=>hb b (.inl ⟨x,hp⟩)
 cases o with
 |cells et cs w=>
  obtain ⟨b,vs,fz,ex,sd,hp,hg,hr,hw,hu⟩:=h;exact ⟨b,vs,fz,ex,sd,hp,(hpos b 0 hp).trans hg,hr.mono hk,hw,fun x=>hk.p b (hu x)⟩
 |arr et e xs w fz em=>exact im.mono hk.p hk.i hpos h
 |iter s pos=>obtain ⟨b,hp,hr,hg⟩:=h;exact ⟨b,hp,hr,(hpos b 0 hp).trans hg⟩
 |nest et e no net ne xs em ho=>exact bo.mono hk hb h
 |map kt gk ge k e xs em=>
  obtain ⟨hk0,h1 |⟨b,es,ck,hp,hr,he,hg,hx⟩⟩:=h
  .exact ⟨hk0,.inl h1⟩
  .exact ⟨hk0,.inr ⟨b,es,ck,hp,hr,he,(hpos b 0 hp).trans hg,hx.mono hk.p hk.i⟩⟩
 |gw kt gk k net ne xs ho=>exact jU.mono hk hb h
 |loop bx st pd fi E ps eo body=>obtain ⟨b,E',hp,hr,hg,hE,h1⟩:=h;exact ⟨b,E',hp,hr,(hpos b 0 hp).trans hg,hE.mono hk,h1⟩
theorem OR.rest {l:Loc} {o:bu} (h:OR P hint Γ Pu I l o) (hm:o.cY=false) {b:Nat} (hb:At I l o b):Pu b:=by
 rcases hb with ⟨x,hp⟩ |hb
 .cases o with
  |cells et cs w=>
   obtain ⟨b',vs,fz,ex,sd,hp',hg',hr,hw,hu⟩:=h;cases hp.symm.trans hp';exact hu hm
  |arr et e xs w fz em=>
   obtain ⟨h1,h2,h3,h4 |⟨b',o,vs,f,ex,sd,hp',he,hg',ht,hl,hx,hw,hu⟩⟩:=h
   .grind
   .cases hp.symm.trans hp'
    exact hu (by simpa [bu.cY] using hm)
  |_=>cases hm
 .cases o with
  |nest=>cases hm
  |gw=>cases hm
  |_=>cases hb
theorem au.dF (hs:au P hint sh Γ Pu H I) (hk:cp Γ Pu I Γ1 Pu1 I1) {id:Nat} {o:bu} {l:Loc} (hg:H.get id=some o) (hl:Γ id=some l) (hb:o.cY=true->∀ b,At I l o b->I1.get b=I.get b):
  OR P hint Γ1 Pu1 I1 l o:=by
 obtain ⟨l',hl',ho⟩:=hs.obj id o hg;cases hl.symm.trans hl';refine ho.mono hk fun b hat=>?_
 cases hm:o.cY with
 |true=>grind
 |false=>exact hk.i b (ho.rest hm hat)
theorem au.ey (hs:au P hint sh Γ Pu H I) (hk:cp Γ Pu I Γ1 Pu1 I1) {id:Nat} {s:Nat} {l:Loc} {b x:Nat} (h1:H.aH id=some s) (hl:Γ id=some l) (hp:l.pos=some (b,x)) (hb:∀ o,H.get id=some o->o.cY=true->I1.get b=I.get b):I1.get b=I.get b:=by
 obtain ⟨o,hg⟩:=GH.hY h1;obtain ⟨l',hl',ho⟩:=hs.obj id o hg;cases hl.symm.trans hl';cases hm:o.cY with
 |true=>grind
 |false=>exact hk.i b (ho.rest hm (.inl ⟨x,hp⟩))
theorem au.HH (hs:au P hint sh Γ Pu H I) (hpos:∀ id o l b x,H.get id=some o->o.cY=true->Γ id=some l->l.pos=some (b,x)->I1.get b=I.get b) (id id':Nat) (o o':bu) (l l':Loc) (b:Nat) (h1:H.get id=some o) (h2:H.get id'=some o') (h3:o.cY=true) (h4:o'.cY=true) (h5:Γ id=some l) (h6:Γ id'=some l') (h7:At I1 l o b) (h8:At I1 l' o' b):id=id':=
 hs.inj id id' o o' l l' b h1 h2 h3 h4 h5 h6 (h7.congr fun b x hp=>hpos id o l b x h1 h3 h5 hp) (h8.congr fun b x hp=>hpos id' o' l' b x h2 h4 h6 hp)
theorem pf (hpos:∀ id o l b x,H.get id=some o->o.cY=true->Γ id=some l->l.pos=some (b,x)->I1.get b=I.get b) {b:Nat}:bk Γ H I1 b->bk Γ H I b:=fun ⟨id,o,l,h1,h2,h3,h4⟩=>⟨id,o,l,h1,h2,h3,h4.congr fun b x hp=>hpos id o l b x h1 h2 h3 hp⟩
def aN.up (Γ:aN) (id:Nat) (l:Loc):aN:=fun k=>if k=id then some l else Γ k
theorem aN.dm (hs:au P hint sh Γ Pu H I) {l0:Loc} {id:Nat} {l:Loc} (h:Γ id=some l):Γ.up H.n l0 id=some l:=by
 have:=hs.aT id l h;unfold aN.up
 grind
theorem jR (hs:au P hint sh Γ Pu H I) (l0:Loc) (io:bN):cp Γ Pu I (Γ.up H.n l0) Pu (I.new io):=
 ⟨fun _ _ h=>aN.dm hs h,fun _ h=>h,fun b hb=>by rw [IH.ay,if_neg (Nat.ne_of_lt (hs.iT hb))]⟩
theorem au.new (hs:au P hint sh Γ Pu H I) (o:bu) (io:bN) (l:Loc) (x:Nat) (hp:l.pos=some (I.n,x)) (ho:OR P hint (Γ.up H.n l) Pu (I.new io) l o) (hh:∀ b,¬ o.has (I.new io) l b:=by intro b h;exact h):
  au P hint sh (Γ.up H.n l) Pu (H.new o) (I.new io)/\Ex (bk Γ H I) Γ Pu H I (Γ.up H.n l) Pu (H.new o) (I.new io):=by
 have hk:=jR hs l io;have old:∀ id o',H.get id=some o'->id≠H.n:=fun id o' h=>by
  obtain ⟨l',hl',_⟩:=hs.obj id o' h;exact Nat.ne_of_lt (hs.aT id l' hl')
 have upn:Γ.up H.n l H.n=some l:=by simp [aN.up]
 have getold:∀ b,b<I.n->(I.new io).get b=I.get b:=fun b hb=>by rw [IH.ay,if_neg (Nat.ne_of_lt hb)]
 have atn:∀ b,At (I.new io) l o b->b=I.n:=fun b h=>by
  rcases h with ⟨y,h⟩ |h
  .rw [hp] at h;cases h;rfl
  grind
 have ato:∀ id o' l' b,H.get id=some o'->o'.cY=true->Γ id=some l'->At (I.new io) l' o' b->At I l' o' b:=fun id o' l' b hg hm hl hat=>
  hat.congr fun b y hp'=>getold b (hs.bJ (.pos hg hm hl hp'))
 have ownI:∀ b,bk (Γ.up H.n l) (H.new o) (I.new io) b->bk Γ H I b\/b=I.n:=by
  rintro b ⟨id,o',l',hg,hm',hl',hat⟩;rw [GH.ay] at hg;split at hg
  .grind
  .rename_i h;unfold aN.up at hl';rw [if_neg h] at hl';exact .inl ⟨id,o',l',hg,hm',hl',ato _ _ _ _ hg hm' hl' hat⟩
 refine ⟨⟨?_,?_,?_,?_,?_,?_,?_,?_,?_,?_,hs.nK hk.p hk.i⟩,⟨fun _ _ h=>aN.dm hs h,Nat.le_succ _,Nat.le_succ _,fun _ h=>h,fun b hb _=>getold b hb,?_,fun b _ h=> .inl h,Nat.le_succ _,?_,?_⟩⟩
 .intro id o' hg
  rw [GH.ay] at hg;split at hg
  .grind
  .obtain ⟨l',hl',_⟩:=hs.obj id o' hg
   refine ⟨l',aN.dm hs hl',hs.dF hk hg hl' fun hm' b hat=>getold b (hs.bJ ⟨id,o',l',hg,hm',hl',hat⟩)⟩
 .intro id id' o1 o2 l1 l2 b hg hg' hm1 hm2 hl1 hl2 hp1 hp2
  rw [GH.ay] at hg hg';unfold aN.up at hl1 hl2;split at hg<;>split at hg'
  .omega
  .rename_i h h'
   rw [if_pos h] at hl1;rw [if_neg h'] at hl2;cases hl1;cases hg;have e1:=atn b hp1;have:=hs.bJ ⟨id',o2,l2,hg',hm2,hl2,ato _ _ _ _ hg' hm2 hl2 hp2⟩;omega
  .rename_i h h'
   rw [if_neg h] at hl1;rw [if_pos h'] at hl2;cases hl2;cases hg';have e2:=atn b hp2;have:=hs.bJ ⟨id,o1,l1,hg,hm1,hl1,ato _ _ _ _ hg hm1 hl1 hp1⟩;omega
  .rename_i h h'
   rw [if_neg h] at hl1;rw [if_neg h'] at hl2;exact hs.inj id id' o1 o2 l1 l2 b hg hg' hm1 hm2 hl1 hl2 (ato _ _ _ _ hg hm1 hl1 hp1) (ato _ _ _ _ hg' hm2 hl2 hp2)
 .intro b hb hpu
  rcases ownI b hb with h |h
  .exact hs.sep b h hpu
  .have:=hs.iT hpu;omega
 .intro id l' h
  unfold aN.up at h
  show id<H.n+1
  split at h
  .omega
  .have:=hs.aT id l' h;omega
 .intro b hb
  have hb':I.n+1<=b:=hb;rw [IH.ay,if_neg (by omega)];exact hs.fresh b (by omega)
 .intro b hb
  obtain ⟨cs,et,fz,ex,sd,hg⟩:=hs.pu b hb;exact ⟨cs,et,fz,ex,sd,(getold b (hs.lt hg)).trans hg⟩
 .exact Nat.le_succ_of_le hs.ro
 .exact Nat.le_succ_of_le hs.gn
 .intro g hg
  obtain ⟨l',h1,h2⟩:=hs.cq g hg;exact ⟨l',aN.dm hs h1,h2⟩
 .intro id s h
  rw [GH.dI] at h
  show s<H.ck+1
  split at h
  .grind
  .have:=hs.st id s h;omega
 .grind
 .intro id hid
  rw [GH.dI,if_neg (by omega)];grind
 .intro id l' b x' s h1 h2 hl' hp'
  exact hs.ey hk h1 hl' hp' fun o' hg hm=>getold b (hs.bJ (.pos hg hm hl' hp'))
theorem au.K5 (hs:au P hint sh Γ Pu H I) (o:bu) (l:Loc) (hp:l.pos=none) (ho:OR P hint (Γ.up H.n l) Pu I l o):
  au P hint sh (Γ.up H.n l) Pu (H.new o) I/\Ex (bk Γ H I) Γ Pu H I (Γ.up H.n l) Pu (H.new o) I:=by
 have hk:cp Γ Pu I (Γ.up H.n l) Pu I:=⟨fun _ _ h=>aN.dm hs h,fun _ h=>h,fun _ _=>rfl⟩;have upn:Γ.up H.n l H.n=some l:=by simp [aN.up]
 have atn:∀ b,¬ At I l o b:=fun b h=>by
  rcases h with ⟨y,h⟩ |h
  .grind
  .cases o with
   |nest=>obtain ⟨i,_,_,b0,o,_,_,_,_,_,hp',_⟩:=h;grind
   |gw=>obtain ⟨i,x,b0,o,_,_,_,_,_,hp',_⟩:=h;grind
   |_=>cases h
 have ownI:∀ b,bk (Γ.up H.n l) (H.new o) I b->bk Γ H I b:=by
  rintro b ⟨id,o',l',hg,hm',hl',hat⟩;rw [GH.ay] at hg;split at hg
  .grind
  .rename_i h;unfold aN.up at hl';rw [if_neg h] at hl';exact ⟨id,o',l',hg,hm',hl',hat⟩
 refine ⟨⟨?_,?_,fun b hb=>hs.sep b (ownI b hb),?_,hs.fresh,hs.pu,hs.ro,Nat.le_succ_of_le hs.gn,?_,?_,hs.nK hk.p hk.i⟩,⟨fun _ _ h=>aN.dm hs h,Nat.le_succ _,zal _,fun _ h=>h,fun b hb _=>rfl,fun b _=>ownI b,fun b _ h=> .inl h,Nat.le_succ _,?_,fun _ _ _ _ _ _ _ _ _=>rfl⟩⟩
 .intro id o' hg
  rw [GH.ay] at hg;split at hg
  .grind
  .obtain ⟨l',hl',ho'⟩:=hs.obj id o' hg
   exact ⟨l',aN.dm hs hl',ho'.mono hk fun _ _=>rfl⟩
 .intro id id' o1 o2 l1 l2 b hg hg' hm1 hm2 hl1 hl2 hp1 hp2
  rw [GH.ay] at hg hg';unfold aN.up at hl1 hl2;split at hg<;>split at hg'
  .omega
  .grind
  .grind
  .rename_i h h'
   rw [if_neg h] at hl1;rw [if_neg h'] at hl2;exact hs.inj id id' o1 o2 l1 l2 b hg hg' hm1 hm2 hl1 hl2 hp1 hp2
 .intro id l' h
  unfold aN.up at h
  show id<H.n+1
  split at h
  .omega
  .have:=hs.aT id l' h;omega
 .intro g hg
  obtain ⟨l',h1,h2⟩:=hs.cq g hg;exact ⟨l',aN.dm hs h1,h2⟩
 .intro id s h
  rw [GH.dI] at h
  show s<H.ck+1
  split at h
  .grind
  .have:=hs.st id s h;omega
 .intro id hid
  rw [GH.dI,if_neg (by omega)];grind
theorem au.gS (hs:au P hint sh Γ Pu H I) {id:Nat} {o:bu} {l:Loc} {b x:Nat} (hg:H.get id=some o) (hm:o.cY=true) (hl:Γ id=some l) (hp:l.pos=some (b,x)) (o':bu) (io:bN)
  (ho:OR P hint Γ Pu (I.put b io) l o') (hh:∀ b',o'.has (I.put b io) l b'->bk Γ H I b'/\∀ id2 o2 l2,id2≠id->H.get id2=some o2->o2.cY=true->Γ id2=some l2->¬ At I l2 o2 b':=by intro b h;exact absurd h (fun h=>h)):
  au P hint sh Γ Pu (H.put id o') (I.put b io)/\Ex (bk Γ H I) Γ Pu H I Γ Pu (H.put id o') (I.put b io):=by
 have hown:bk Γ H I b:= .pos hg hm hl hp;have hblt:=hs.bJ hown;have hnp:=hs.sep b hown;have hk:cp Γ Pu I Γ Pu (I.put b io):=⟨fun _ _ h=>h,fun _ h=>h,fun b' hb'=>by rw [IH.ag,if_neg (by grind)]⟩;have other:∀ id' o2 l' b',id'≠id->H.get id'=some o2->o2.cY=true->Γ id'=some l'->At I l' o2 b'->(I.put b io).get b'=I.get b':=by
  intro id' o2 l' b' hne hg' hm' hl' hat;rw [IH.ag,if_neg];rintro rfl;exact hne (hs.inj id' id o2 o l' l b' hg' hg hm' hm hl' hl hat (.inl ⟨x,hp⟩))
 have ato:∀ id' o2 l' b',id'≠id->H.get id'=some o2->o2.cY=true->Γ id'=some l'->At (I.put b io) l' o2 b'->At I l' o2 b':=fun id' o2 l' b' hne hg' hm' hl' hat=>
  hat.congr fun b2 y hp2=>other id' o2 l' b2 hne hg' hm' hl' (.inl ⟨y,hp2⟩)
 have atn:∀ b',At (I.put b io) l o' b'->bk Γ H I b'/\∀ id2 o2 l2,id2≠id->H.get id2=some o2->o2.cY=true->Γ id2=some l2->¬ At I l2 o2 b':=fun b' h=>by
  rcases h with ⟨y,h⟩ |h
  .rw [hp] at h;cases h
   exact ⟨hown,fun id2 o2 l2 hne hg2 hm2 hl2 hat=>hne (hs.inj id2 id o2 o l2 l b hg2 hg hm2 hm hl2 hl hat (.inl ⟨x,hp⟩))⟩
  grind
 have ownI:∀ b',bk Γ (H.put id o') (I.put b io) b'->bk Γ H I b':=by
  rintro b' ⟨id',o2,l',hg',hm',hl',hat⟩;rw [GH.ag] at hg';split at hg'
  .grind
  .rename_i hne;exact ⟨id',o2,l',hg',hm',hl',ato _ _ _ _ hne hg' hm' hl' hat⟩
 refine ⟨⟨?_,?_,fun b' hb'=>hs.sep b' (ownI b' hb'),hs.aT,?_,?_,hs.ro,hs.gn,hs.cq,?_,hs.nK hk.p hk.i⟩,⟨fun _ _ h=>h,zal _,zal _,fun _ h=>h,?_,fun b' _=>ownI b',fun b' _ h=> .inl h,Nat.le_succ _,?_,?_⟩⟩
 .intro id' o2 hg'
  rw [GH.ag] at hg';split at hg'
  .grind
  .rename_i hne
   obtain ⟨l',hl',_⟩:=hs.obj id' o2 hg';exact ⟨l',hl',hs.dF hk hg' hl' fun hm' b' hat=>other id' o2 l' b' hne hg' hm' hl' hat⟩
 .intro i1 i2 o1 o2 l1 l2 b' hg1 hg2 hm1 hm2 hl1 hl2 hp1 hp2
  rw [GH.ag] at hg1 hg2;split at hg1<;>split at hg2
  .omega
  .grind
  .grind
  .rename_i h h'
   exact hs.inj i1 i2 o1 o2 l1 l2 b' hg1 hg2 hm1 hm2 hl1 hl2 (ato _ _ _ _ h hg1 hm1 hl1 hp1) (ato _ _ _ _ h' hg2 hm2 hl2 hp2)
 .intro b' hb'
  rw [IH.ag,if_neg (by have:I.n<=b':=hb';omega)];exact hs.fresh b' hb'
 .intro b' hb'
  obtain ⟨cs,et,fz,ex,sd,hg'⟩:=hs.pu b' hb';exact ⟨cs,et,fz,ex,sd,(hk.i b' hb').trans hg'⟩
 .intro id' s h
  rw [GH.eZ] at h
  show s<H.ck+1
  split at h
  .grind
  .have:=hs.st id' s h;omega
 .intro b' _ hno
  rw [IH.ag,if_neg (by grind)]
 .intro id' _
  rw [GH.eZ]
  grind
 .intro id' l' b' x' s h1 h2 hl' hp'
  rw [GH.eZ] at h2;split at h2
  .cases h2;have:=hs.st id' _ h1;omega
  .rename_i hne
   exact hs.ey hk h1 hl' hp' fun o2 hg' hm'=>other id' o2 l' b' hne hg' hm' hl' (.inl ⟨x',hp'⟩)
end
end Go.Gv
/- Lists whose elements hold lists: their cells. -/
namespace Go.Gv
open Go Go.Iv
section
variable {P:Program} {hint:Hint} {sh:bU}
variable {Γ Γ':aN} {Pu Pu':Nat->Prop} {H H':GH} {I I':IH}
theorem Sh.xQ:∀ s:Sh,∃ h:s=s,Sh.same s s=some ⟨h⟩:=by
 intro s
 induction s with
 |int k=>exact ⟨rfl,by simp [Sh.same]⟩
 |byte=>exact ⟨rfl,rfl⟩
 |bool=>exact ⟨rfl,rfl⟩
 |str=>exact ⟨rfl,rfl⟩
 |cons a b iha ihb=>
  obtain ⟨h1,e1⟩:=iha;obtain ⟨h2,e2⟩:=ihb;exact ⟨rfl,by simp [Sh.same,e1,e2]⟩
 |bH e ih=>obtain ⟨h1,e1⟩:=ih;exact ⟨rfl,by simp [Sh.same,e1]⟩
theorem px:∀ {e:Sh} (x:e.ty),(e.cV x).length=e.sz:=by
 intro e
 induction e with
 |cons a b iha ihb=>intro x;simp only [Sh.cV,zaf,Sh.sz,iha x.1,ihb x.2]
 |_=>intro x;rfl
def N9:TV->Bool
 | .int _ _ | .byte _ | .bool _ | .str _ | .undef=>true
 |_=>false
theorem br.flat:∀ {l:List TV} {vs:List Value},l.all N9=true->br Γ Pu I l vs->br Γ' Pu' I' l vs:=by
 intro l
 induction l with
 |nil=>intro vs _ h;cases h;exact .nil
 |cons t r ih=>
  intro vs hn h;simp only [List.all_cons,zae] at hn;cases h with |cons a b=>
  refine .cons ?_ (ih hn.2 b);cases t with
  |int k n=>cases a;exact .int k n
  |byte c=>cases a;exact .byte c
  |bool c=>cases a;exact .bool c
  |str c=>cases a;exact .str c
  |undef=>exact .undef _
  |_=>cases hn.1
theorem xL:∀ {e:Sh} (_:xK e=true) (x:e.ty),(e.cV x).all N9=true:=by
 intro e
 induction e with
 |cons a b iha ihb=>
  intro h x;simp only [xK,zae] at h;simp only [Sh.cV,List.all_append,zae]
  grind
 |bH e=>intro h;cases h
 |_=>intro _ x;rfl
theorem fJ:∀ {e:Sh} {no:Nat} {ne:Sh},JA e no ne=true->no<e.sz/\∀ x:e.ty,(e.cV x)[no]? =some (.aB ne (aL e no ne x) none false)/\((e.cV x).set no .undef).all N9=true/\∀ ys,e.cV (dj e no ne x ys)=(e.cV x).set no (.aB ne ys none false):=by
 intro e
 induction e with
 |cons a b iha ihb=>
  intro no ne h;simp only [JA] at h;cases hb:Nat.blt no a.sz with
  |true=>
   rw [hb] at h;simp only [zac,zae] at h;have hlt:no<a.sz:=Nat.le_of_ble_eq_true hb;obtain ⟨h1,h2⟩:=iha h.1;refine ⟨by simp only [Sh.sz];omega,fun x=>?_⟩;obtain ⟨g1,g2,g3⟩:=h2 x.1;have hl:=px x.1;refine ⟨?_,?_,fun ys=>?_⟩
   .simp only [Sh.cV,aL,hb]
    grind
   .simp only [Sh.cV]
    rw [List.set_append_left _ _ (by omega),List.all_append,g2,xL h.2 x.2];rfl
   .simp only [Sh.cV,dj,hb,g3]
    grind
  |false=>
   rw [hb] at h;simp only [zab,zae] at h;have hge:a.sz<=no:=by
    rcases Nat.lt_or_ge no a.sz with h1 |h1
    .rw [show Nat.blt no a.sz=true from Nat.ble_eq_true_of_le h1] at hb;cases hb
    .exact h1
   obtain ⟨h1,h2⟩:=ihb h.2;refine ⟨by simp only [Sh.sz];omega,fun x=>?_⟩;obtain ⟨g1,g2,g3⟩:=h2 x.2;have hl:=px x.1;refine ⟨?_,?_,fun ys=>?_⟩
   .simp only [Sh.cV,aL,hb]
    grind
   .simp only [Sh.cV]
    rw [List.set_append_right _ _ (by omega),List.all_append,hl,g2,xL h.1 x.1];rfl
   .simp only [Sh.cV,dj,hb,g3]
    grind
 |bH e _=>
  intro no ne h;cases no with
  |succ n=>cases h
  |zero=>
   simp only [JA] at h;cases hs:Sh.same e ne with
   |none=>grind
   |some q=>
    obtain ⟨q⟩:=q;subst q;obtain ⟨_,e1⟩:=Sh.xQ e;refine ⟨by simp [Sh.sz],fun x=>⟨?_,rfl,fun ys=>?_⟩⟩
    .simp only [Sh.cV,aL,e1];rfl
    .simp only [Sh.cV,dj,e1];rfl
 |_=>intro no ne h;cases no<;>cases h
theorem CK {e:Sh} {no:Nat} {ne:Sh} (h:JA e no ne=true) (x:e.ty) (ys:List ne.ty):aL e no ne (dj e no ne x ys)=ys:=by
 obtain ⟨h1,h2⟩:=fJ h
 grind
theorem Jw {e:Sh} {no:Nat} {ne:Sh} (h:JA e no ne=true) (x:e.ty) (ys:List ne.ty):(e.cV (dj e no ne x ys)).set no .undef=(e.cV x).set no .undef:=by
 rw [(fJ h).2 x |>.2.2 ys,List.set_set]
end
end Go.Gv
