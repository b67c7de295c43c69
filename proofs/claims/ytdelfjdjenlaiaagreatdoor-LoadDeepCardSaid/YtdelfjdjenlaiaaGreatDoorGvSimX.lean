/- The two heaps side by side, and what each kind of step does to them. -/
import Derived.Test.YtdelfjdjenlaiaaGreatDoorGvRel
set_option linter.unusedSimpArgs false
set_option linter.unusedVariables false
namespace Go.Gv
open Go Go.Iv
def ER (Γ:bc) (Pu:Nat->Prop) (I:IH) (E:GE) (E':En):Prop:=∀ t,GR Γ Pu I (eX E.loc t) (lk E'.loc t)/\GR Γ Pu I (eX E.tmp t) (lk E'.tmp t)
inductive Sub:Code->Code->Prop
 |refl (c:Code):Sub c c
 |OD {a b c:Code}:Sub c a->Sub c (.seq a b)
 |Ia {a b c:Code}:Sub c b->Sub c (.seq a b)
 |Fj {o:Operand} {a b c:Code}:Sub c a->Sub c (.cond o a b)
 |GP {o:Operand} {a b c:Code}:Sub c b->Sub c (.cond o a b)
 |block {i:Nat} {a c:Code}:Sub c a->Sub c (.block i a)
 |loop {a c:Code}:Sub c a->Sub c (.loop a)
 |dZ {f:Operand} {ps:Array Tmp} {a b c:Code}:Sub c a->Sub c (.rangeFunc f ps a b)
 |body {f:Operand} {ps:Array Tmp} {a b c:Code}:Sub c b->Sub c (.rangeFunc f ps a b)
 |scope {a c:Code}:Sub c a->Sub c (.scope a)
theorem Sub.trans {a b c:Code} (h:Sub a b) (k:Sub b c):Sub a c:=by
 induction k with
 |refl=>exact h
 |OD _ ih=>exact .OD (ih h)
 |Ia _ ih=>exact .Ia (ih h)
 |Fj _ ih=>exact .Fj (ih h)
 |GP _ ih=>exact .GP (ih h)
 |block _ ih=>exact .block (ih h)
 |loop _ ih=>exact .loop (ih h)
 |dZ _ ih=>exact .dZ (ih h)
 |body _ ih=>exact .body (ih h)
 |scope _ ih=>exact .scope (ih h)
def Oj (P:Program) (hint:Hint) (bO:Nat) (fi:FI) (c:Code):Prop:=∃ fn b,P.funcs[bO]? =some fn/\fn.body=some b/\fi=cQ hint bO fn/\Sub c b
theorem Oj.sub {P:Program} {hint:Hint} {bO:Nat} {fi:FI} {c c':Code} (h:Oj P hint bO fi c) (hc:Sub c' c):Oj P hint bO fi c':=by
 obtain ⟨fn,b,h1,h2,h3,h4⟩:=h;exact ⟨fn,b,h1,h2,h3,hc.trans h4⟩
def bL.dh:bL->Bool
 | .cells _ _ w=>w
 | .arr _ _ _ _ fz _=> !fz
 |_=>true
section
variable {P:Program} {hint:Hint} {sh:cA}
def jb (Pu:Nat->Prop) (I:IH) (l:Loc) (et:TypeId) (e:Sh) (xs:List e.ty) (w fz:Bool) (em:Em):Prop:=
 l.len=List.length xs/\l.sz=e.sz/\0<e.sz/\((l.pos=none/\xs= []/\em≠ .no)∨∃ b o vs f ex sd,l.pos=some (b,o)/\(em= .ex->xs≠ [])/\I.get b=some (.cells vs et f ex sd)/\vs.length=l.tot/\o+List.length xs*e.sz<=vs.length/\
   (∀ i x,xs[i]? =some x->cy Pu I e x ((vs.drop (o+i*e.sz)).take e.sz))/\(fz=false->dO<=b/\sd=false/\f<=o+List.length xs*e.sz/\(w=true->f<=o))/\(fz=true->Pu b))
def oW:Value->Option Nat
 | .slice (some a) _ _=>some a.block
 |_=>none
def NB (I:IH) (l:Loc) (sz no:Nat) (hole:Option Nat) (b i:Nat):Prop:=
 hole≠some i/\i<l.len/\∃ b0 o vs et f ex sd,l.pos=some (b0,o)/\I.get b0=some (.cells vs et f ex sd)/\(vs[o+i*sz+no]?).bind oW=some b
def bH (Γ:bc) (Pu:Nat->Prop) (I:IH) (l:Loc) (et:TypeId) (e:Sh) (no:Nat) (net:TypeId) (ne:Sh) (xs:List e.ty) (em:Em) (ho:Option (Nat×Nat×e.ty)):Prop:=
 l.len=List.length xs/\l.sz=e.sz/\0<e.sz/\HW e no ne=true/\((l.pos=none/\xs= []/\em≠ .no/\ho=none)∨∃ b o vs f ex,l.pos=some (b,o)/\(em= .ex->xs≠ [])/\I.get b=some (.cells vs et f ex false)/\vs.length=l.tot/\o+List.length xs*e.sz<=vs.length/\dO<=b/\f<=o/\
   (∀ i x,xs[i]? =some x->bK Γ Pu I ((e.de x).set no .undef) ((vs.drop (o+i*e.sz)).take e.sz))/\
   (∀ i x v,xs[i]? =some x->ho.map (·.1)≠some i->vs[o+i*e.sz+no]? =some v->∃ l',jb Pu I l' net ne (aY e no ne x) true false .ex/\fT l' 0 l'.len v)/\
   (∀ i n x,ho=some (i,n,x)->xs[i]? =some x/\∃ ln v,Γ n=some ln/\vs[o+i*e.sz+no]? =some v/\fT ln 0 ln.len v)/\
   (∀ i j b',NB I l e.sz no (ho.map (·.1)) b' i->NB I l e.sz no (ho.map (·.1)) b' j->i=j)/\∀ i,¬ NB I l e.sz no (ho.map (·.1)) b i)
def MB (I:IH) (l:Loc) {k ne:Sh} (xs:List (k.ty×List ne.ty)) (hole:Option k.ty) (b i:Nat):Prop:=
 ∃ (x:k.ty×List ne.ty) (b0 o:Nat) (es:List MapEntry) (ck:Nat) (n:MapEntry),xs[i]? =some x/\hole≠some x.1/\l.pos=some (b0,o)/\I.get b0=some (.map es ck)/\es[i]? =some n/\oW n.val=some b
def jO (P:Program) (Γ:bc) (Pu:Nat->Prop) (I:IH) (l:Loc) (kt:TypeId) (gk:Bool) (k:Sh) (net:TypeId) (ne:Sh) (xs:List (k.ty×List ne.ty)) (ho:Option (k.ty×Nat)):Prop:=
 nL P kt gk k=true/\0<ne.sz/\(∀ (i j:Nat) (x y:k.ty×List ne.ty),xs[i]? =some x->xs[j]? =some y->x.1=y.1->i=j)/\∃ (b:Nat) (es:List MapEntry) (ck:Nat),l.pos=some (b,0)/\dO<=b/\I.get b=some (.map es ck)/\es.length=List.length xs/\
   (∀ (i:Nat) (x:k.ty×List ne.ty) (n:MapEntry),xs[i]? =some x->es[i]? =some n->sO Pu I gk k x.1 n.key)/\
   (∀ (i:Nat) (x:k.ty×List ne.ty) (n:MapEntry),xs[i]? =some x->es[i]? =some n->ho.map (·.1)≠some x.1->∃ l',jb Pu I l' net ne x.2 true false .ex/\fT l' 0 l'.len n.val)/\
   (∀ y m,ho=some (y,m)->∃ ln,Γ m=some ln/\∀ (i:Nat) (x:k.ty×List ne.ty) (n:MapEntry),xs[i]? =some x->es[i]? =some n->x.1=y->fT ln 0 ln.len n.val)/\
   ∀ i j b',MB I l xs (ho.map (·.1)) b' i->MB I l xs (ho.map (·.1)) b' j->i=j
def OR (P:Program) (hint:Hint) (Γ:bc) (Pu:Nat->Prop) (I:IH) (l:Loc):bL->Prop
 | .cells et cs w=>∃ b vs fz ex sd,l.pos=some (b,0)/\I.get b=some (.cells vs et fz ex sd)/\bK Γ Pu I cs vs/\(w=true->dO<=b/\fz=0/\ex=true/\sd=false)/\(w=false->Pu b)
 | .arr et e xs w fz em=>jb Pu I l et e xs w fz em
 | .iter s pos=>∃ b,l.pos=some (b,0)/\dO<=b/\I.get b=some (.eW (ba s) pos)
 | .nest et e no net ne xs em ho=>bH Γ Pu I l et e no net ne xs em ho
 | .map kt gk ge k e xs em=>nL P kt gk k=true/\((l.pos=none/\xs= []/\em=true)∨∃ b es ck,l.pos=some (b,0)/\dO<=b/\(em=true->xs≠ [])/\I.get b=some (.map es ck)/\np Pu I gk ge k e xs es)
 | .gT kt gk k net ne xs ho=>jO P Γ Pu I l kt gk k net ne xs ho
 | .loop bO st pd fi E ps dZ body=>∃ b E',l.pos=some (b,0)/\dO<=b/\I.get b=some (.loop st pd fi E' ps dZ body)/\ER Γ Pu I E E'/\∃ f qs,Oj P hint bO fi (.rangeFunc f qs dZ body)/\ps=Array.toList qs
def bL.has (I:IH) (l:Loc) (b:Nat):bL->Prop
 | .nest _ e no _ _ _ _ ho=>∃ i,NB I l e.sz no (ho.map (·.1)) b i
 | .gT _ _ _ _ _ xs ho=>∃ i,MB I l xs (ho.map (·.1)) b i
 |_=>False
def At (I:IH) (l:Loc) (o:bL) (b:Nat):Prop:=(∃ x,l.pos=some (b,x))∨o.has I l b
def bx (Γ:bc) (H:GH) (I:IH) (b:Nat):Prop:=∃ id o l,H.get id=some o/\o.dh=true/\Γ id=some l/\At I l o b
theorem bx.pos {Γ:bc} {H:GH} {I:IH} {id:Nat} {o:bL} {l:Loc} {b x:Nat} (hg:H.get id=some o) (hm:o.dh=true) (hl:Γ id=some l) (hp:l.pos=some (b,x)):bx Γ H I b:=⟨id,o,l,hg,hm,hl,.inl ⟨x,hp⟩⟩
structure aw (P:Program) (hint:Hint) (sh:cA) (Γ:bc) (Pu:Nat->Prop) (H:GH) (I:IH):Prop where
 obj:∀ id o,H.get id=some o->∃ l,Γ id=some l/\OR P hint Γ Pu I l o
 inj:∀ id id' o o' l l' b,H.get id=some o->H.get id'=some o'->o.dh=true->o'.dh=true->Γ id=some l->Γ id'=some l'->At I l o b->At I l' o' b->id=id'
 sep:∀ b,bx Γ H I b->¬ Pu b
 bj:∀ id l,Γ id=some l->id<H.n
 fresh:∀ b,I.n<=b->I.get b=none
 pu:∀ b,Pu b->∃ cs et fz ex sd,I.get b=some (.cells cs et fz ex sd)
 ro:dO<=I.n
 gn:bU<=H.n
 cE:∀ g,g<bU->∃ l,Γ g=some l/\l.pos=some (g,0)
 st:∀ id s,H.aT id=some s->s<H.ck
 HX:∀ g T,g<bU->sh.tb g=some T->Pu g/\∃ vs et fz ex sd,I.get g=some (.cells vs et fz ex sd)/\ex=true/\vs.length=List.length T.xs*T.e.sz/\∀ i x,T.xs[i]? =some x->i*T.e.sz+T.e.sz<=vs.length/\cy Pu I T.e x ((vs.drop (i*T.e.sz)).take T.e.sz)
structure Ex (O:Nat->Prop) (Γ:bc) (Pu:Nat->Prop) (H:GH) (I:IH) (Γ1:bc) (Pu1:Nat->Prop) (H1:GH) (I1:IH):Prop where
 g:∀ id l,Γ id=some l->Γ1 id=some l
 hn:H.n<=H1.n
 n:I.n<=I1.n
 p:∀ b,Pu b->Pu1 b
 cI:∀ b,b<I.n->¬ O b->I1.get b=I.get b
 own:∀ b,b<I.n->bx Γ1 H1 I1 b->O b
 pn:∀ b,b<I.n->Pu1 b->Pu b∨O b
 ck:H.ck<=H1.ck
 yW:∀ id,id<H.n->H1.aT id=none∨H1.aT id=H.aT id∨∃ s,H1.aT id=some s/\H.ck<=s
 jv:∀ id l b x s,H.aT id=some s->H1.aT id=some s->Γ id=some l->l.pos=some (b,x)->I1.get b=I.get b
variable {O:Nat->Prop} {Γ Γ1 Γ2:bc} {Pu Pu1 Pu2:Nat->Prop} {H H1 H2:GH} {I I1 I2:IH}
theorem aw.oE (hs:aw P hint sh Γ Pu H I) (hp:∀ b,Pu b->Pu1 b) (hi:∀ b,Pu b->I1.get b=I.get b) (g:Nat) (T:Tb) (hg:g<bU) (hT:sh.tb g=some T):
  Pu1 g/\∃ vs et fz ex sd,I1.get g=some (.cells vs et fz ex sd)/\ex=true/\vs.length=List.length T.xs*T.e.sz/\∀ i x,T.xs[i]? =some x->i*T.e.sz+T.e.sz<=vs.length/\cy Pu1 I1 T.e x ((vs.drop (i*T.e.sz)).take T.e.sz):=by
 obtain ⟨h1,vs,et,fz,ex,sd,h2,h4,h5,h3⟩:=hs.HX g T hg hT;exact ⟨hp g h1,vs,et,fz,ex,sd,(hi g h1).trans h2,h4,h5,fun i x hx=>⟨(h3 i x hx).1,(h3 i x hx).2.mono hp hi⟩⟩
theorem aw.lt (h:aw P hint sh Γ Pu H I) {b:Nat} {o:bA} (hb:I.get b=some o):b<I.n:=
 Nat.lt_of_not_le fun hn=>by rw [h.fresh b hn] at hb;cases hb
theorem jb.mono (hp:∀ b,Pu b->Pu1 b) (hi:∀ b,Pu b->I1.get b=I.get b) {l:Loc} {et:TypeId} {e:Sh} {xs:List e.ty} {w fz:Bool} {em:Em} (hb:∀ b x,l.pos=some (b,x)->I1.get b=I.get b) (h:jb Pu I l et e xs w fz em):jb Pu1 I1 l et e xs w fz em:=by
 obtain ⟨h1,h2,h3,h4 |⟨b,o,vs,f,ex,sd,hp',he,hg,ht,hl,hx,hw,hu⟩⟩:=h
 ·exact ⟨h1,h2,h3,.inl h4⟩
 ·exact ⟨h1,h2,h3,.inr ⟨b,o,vs,f,ex,sd,hp',he,(hb b o hp').trans hg,ht,hl,fun i x hx'=>(hx i x hx').mono hp hi,hw,fun x=>hp b (hu x)⟩⟩
theorem vi {l:Loc} {v:Value} {b:Nat} (h:fT l 0 l.len v) (hb:oW v=some b):∃ o,l.pos=some (b,o):=by
 unfold fT at h;split at h
 ·rw [h.1] at hb;cases hb
 ·rename_i b' o hp
  obtain ⟨cap,rfl,_⟩:=h;cases hb;exact ⟨o,hp⟩
theorem na {l:Loc} {v:Value} {b o:Nat} (h:fT l 0 l.len v) (hb:l.pos=some (b,o)):oW v=some b:=by
 unfold fT at h;rw [hb] at h;obtain ⟨cap,rfl,_⟩:=h;rfl
theorem NB.congr {l:Loc} {sz no:Nat} {hole:Option Nat} {b i:Nat} (hb:∀ b x,l.pos=some (b,x)->I1.get b=I.get b) (h:NB I1 l sz no hole b i):NB I l sz no hole b i:=by
 obtain ⟨h1,h2,b0,o,vs,et,f,ex,sd,hp,hg,hv⟩:=h;exact ⟨h1,h2,b0,o,vs,et,f,ex,sd,hp,(hb b0 o hp).symm.trans hg,hv⟩
theorem MB.congr {l:Loc} {k ne:Sh} {xs:List (k.ty×List ne.ty)} {hole:Option k.ty} {b i:Nat} (hb:∀ b x,l.pos=some (b,x)->I1.get b=I.get b) (h:MB I1 l xs hole b i):MB I l xs hole b i:=by
 obtain ⟨x,b0,o,es,ck,n,h1,h2,h3,h4,h5⟩:=h;exact ⟨x,b0,o,es,ck,n,h1,h2,h3,(hb b0 o h3).symm.trans h4,h5⟩
theorem At.congr {l:Loc} {o:bL} {b:Nat} (hb:∀ b x,l.pos=some (b,x)->I1.get b=I.get b) (h:At I1 l o b):At I l o b:=by
 rcases h with h |h
 ·exact .inl h
 ·cases o with
  |nest et e no net ne xs em ho=>obtain ⟨i,hi⟩:=h;exact .inr ⟨i,hi.congr hb⟩
  |gT kt gk k net ne xs ho=>obtain ⟨i,hi⟩:=h;exact .inr ⟨i,hi.congr hb⟩
  |_=>cases h
theorem bH.at {l:Loc} {et:TypeId} {e:Sh} {no:Nat} {net:TypeId} {ne:Sh} {xs:List e.ty} {em:Em} {ho:Option (Nat×Nat×e.ty)} (h:bH Γ Pu I l et e no net ne xs em ho) {b i:Nat} (hn:NB I l e.sz no (ho.map (·.1)) b i):
  ∃ x v l' o',xs[i]? =some x/\jb Pu I l' net ne (aY e no ne x) true false .ex/\fT l' 0 l'.len v/\l'.pos=some (b,o'):=by
 obtain ⟨h1,h2,h3,h4,h5 |⟨b0,o,vs,f,ex,hp,he,hg,ht,hl,hro,hf,hx,hy,hh,hd,hself⟩⟩:=h
 ·obtain ⟨_,_,b0,o,_,_,_,_,_,hp,_⟩:=hn
  rw [h5.1] at hp;cases hp
 ·obtain ⟨n1,n2,b1,o1,vs1,et1,f1,ex1,sd1,hp1,hg1,hv1⟩:=hn
  cases hp.symm.trans hp1;cases hg.symm.trans hg1;have hi:i<xs.length:=by rw [←h1];exact n2
  cases hv:vs[o+i*e.sz+no]? with
  |none=>rw [hv] at hv1;cases hv1
  |some v=>
   rw [hv] at hv1;obtain ⟨l',a1,a2⟩:=hy i _ v (zaj hi) n1 hv;obtain ⟨o',ho'⟩:=vi a2 hv1;exact ⟨_,v,l',o',zaj hi,a1,a2,ho'⟩
theorem jO.at {l:Loc} {kt:TypeId} {gk:Bool} {k:Sh} {net:TypeId} {ne:Sh} {xs:List (k.ty×List ne.ty)} {ho:Option (k.ty×Nat)} (h:jO P Γ Pu I l kt gk k net ne xs ho) {b i:Nat} (hn:MB I l xs (ho.map (·.1)) b i):
  ∃ x v l' o',xs[i]? =some x/\jb Pu I l' net ne x.2 true false .ex/\fT l' 0 l'.len v/\l'.pos=some (b,o'):=by
 obtain ⟨h1,h2,h3,b0,es,ck,hp,hro,hg,hl,hk,hx,hh,hd⟩:=h;obtain ⟨x,b1,o1,es1,ck1,n,n1,n2,n3,n4,n5,n6⟩:=hn;cases hp.symm.trans n3;cases hg.symm.trans n4;obtain ⟨l',a1,a2⟩:=hx i x n n1 n5 n2;obtain ⟨o',ho'⟩:=vi a2 n6;exact ⟨x,_,l',o',n1,a1,a2,ho'⟩
theorem jb.get {l:Loc} {et:TypeId} {e:Sh} {xs:List e.ty} {w fz:Bool} {em:Em} (h:jb Pu I l et e xs w fz em) {b x:Nat} (hp:l.pos=some (b,x)):∃ vs f ex sd,I.get b=some (.cells vs et f ex sd):=by
 obtain ⟨_,_,_,h4 |⟨b',o,vs,f,ex,sd,hp',he,hg,_⟩⟩:=h
 ·rw [h4.1] at hp;cases hp
 ·cases hp.symm.trans hp';exact ⟨_,_,_,_,hg⟩
theorem OR.Db {l:Loc} {o:bL} (ho:OR P hint Γ Pu I l o) {b:Nat} (hb:At I l o b):∃ io,I.get b=some io:=by
 rcases hb with ⟨x,hp⟩ |hb
 ·cases o with
  |cells et cs w=>obtain ⟨b',vs,fz,ex,sd,hp',hb',_⟩:=ho;cases hp.symm.trans hp';exact ⟨_,hb'⟩
  |arr et e xs w fz em=>obtain ⟨vs,f,ex,sd,h⟩:=jb.get ho hp;exact ⟨_,h⟩
  |iter s pos=>obtain ⟨b',hp',_,hb'⟩:=ho;cases hp.symm.trans hp';exact ⟨_,hb'⟩
  |nest et e no net ne xs em ho'=>
   obtain ⟨_,_,_,_,h1 |⟨b',o,vs,f,ex,hp',_,hb',_⟩⟩:=ho
   ·rw [h1.1] at hp;cases hp
   ·cases hp.symm.trans hp';exact ⟨_,hb'⟩
  |map kt gk ge k e xs em=>
   obtain ⟨_,⟨h1,_⟩ |⟨b',es,ck,hp',_,_,hb',_⟩⟩:=ho
   ·rw [h1] at hp;cases hp
   ·cases hp.symm.trans hp';exact ⟨_,hb'⟩
  |gT kt gk k net ne xs ho'=>obtain ⟨_,_,_,b',es,ck,hp',_,hb',_⟩:=ho;cases hp.symm.trans hp';exact ⟨_,hb'⟩
  |loop bO st pd fi E ps dZ body=>obtain ⟨b',E',hp',_,hb',_⟩:=ho;cases hp.symm.trans hp';exact ⟨_,hb'⟩
 ·cases o with
  |nest et e no net ne xs em ho'=>
   obtain ⟨i,hi⟩:=hb;obtain ⟨x,v,l',o',_,h2,_,h4⟩:=bH.at ho hi;obtain ⟨vs,f,ex,sd,h⟩:=h2.get h4;exact ⟨_,h⟩
  |gT kt gk k net ne xs ho'=>
   obtain ⟨i,hi⟩:=hb;obtain ⟨x,v,l',o',_,h2,_,h4⟩:=jO.at ho hi;obtain ⟨vs,f,ex,sd,h⟩:=h2.get h4;exact ⟨_,h⟩
  |_=>cases hb
theorem aw.xD (h:aw P hint sh Γ Pu H I) {b:Nat} (hb:bx Γ H I b):∃ o,I.get b=some o:=by
 obtain ⟨id,o,l,hg,hm,hl,hat⟩:=hb;obtain ⟨l',hl',ho⟩:=h.obj id o hg;cases hl.symm.trans hl';exact ho.Db hat
theorem aw.cq (h:aw P hint sh Γ Pu H I) {b:Nat} (hb:bx Γ H I b):b<I.n:=by
 obtain ⟨o,ho⟩:=h.xD hb;exact h.lt ho
theorem aw.W6 (h:aw P hint sh Γ Pu H I) (id id':Nat) (o o':bL) (l l':Loc) (b x x':Nat) (h1:H.get id=some o) (h2:H.get id'=some o') (h3:o.dh=true) (h4:o'.dh=true) (h5:Γ id=some l) (h6:Γ id'=some l') (h7:l.pos=some (b,x)) (h8:l'.pos=some (b,x')):id=id':=
 h.inj id id' o o' l l' b h1 h2 h3 h4 h5 h6 (.inl ⟨x,h7⟩) (.inl ⟨x',h8⟩)
theorem aw.jh (h:aw P hint sh Γ Pu H I) {b:Nat} (hb:Pu b):b<I.n:=by
 obtain ⟨cs,et,fz,ex,sd,hg⟩:=h.pu b hb;exact h.lt hg
theorem Ex.refl (_h:aw P hint sh Γ Pu H I):Ex (bx Γ H I) Γ Pu H I Γ Pu H I:=
 ⟨fun _ _ x=>x,zai _,zai _,fun _ x=>x,fun _ _ _=>rfl,fun _ _ x=>x,fun _ _ x=> .inl x,zai _,fun _ _=> .inr (.inl rfl),fun _ _ _ _ _ _ _ _ _=>rfl⟩
theorem Ex.cJ (hs:aw P hint sh Γ Pu H I) (h:Ex (bx Γ H I) Γ Pu H I Γ1 Pu1 H1 I1):cH Γ Pu I Γ1 Pu1 I1:=
 ⟨h.g,h.p,fun b hb=>h.cI b (hs.jh hb) fun ho=>hs.sep b ho hb⟩
theorem Ex.trans (hs:aw P hint sh Γ Pu H I) (_h1:aw P hint sh Γ1 Pu1 H1 I1) (h:Ex O Γ Pu H I Γ1 Pu1 H1 I1) (k:Ex (bx Γ1 H1 I1) Γ1 Pu1 H1 I1 Γ2 Pu2 H2 I2):Ex O Γ Pu H I Γ2 Pu2 H2 I2 where
 g:=fun id l x=>k.g id l (h.g id l x)
 hn:=Nat.le_trans h.hn k.hn
 n:=Nat.le_trans h.n k.n
 p:=fun b x=>k.p b (h.p b x)
 cI:=fun b hb ho=>(k.cI b (Nat.lt_of_lt_of_le hb h.n) fun x=>ho (h.own b hb x)).trans (h.cI b hb ho)
 own:=fun b hb x=>h.own b hb (k.own b (Nat.lt_of_lt_of_le hb h.n) x)
 pn:=fun b hb x=>(k.pn b (Nat.lt_of_lt_of_le hb h.n) x).elim (h.pn b hb) fun y=> .inr (h.own b hb y)
 ck:=Nat.le_trans h.ck k.ck
 yW:=fun id hid=>by
  rcases k.yW id (Nat.lt_of_lt_of_le hid h.hn) with x |x |⟨s,x,y⟩
  ·exact .inl x
  ·rw [x];exact h.yW id hid
  ·exact .inr (.inr ⟨s,x,Nat.le_trans h.ck y⟩)
 jv:=fun id l b x s hs0 hs2 hl hp=>by
  have hid:=hs.bj id l hl;have hlt:=hs.st id s hs0;rcases k.yW id (Nat.lt_of_lt_of_le hid h.hn) with y |y |⟨s',y,z⟩
  ·rw [y] at hs2;cases hs2
  ·rw [y] at hs2
   exact (k.jv id l b x s hs2 (y.trans hs2) (h.g id l hl) hp).trans (h.jv id l b x s hs0 hs2 hl hp)
  ·rw [y] at hs2;cases hs2
   have:=h.ck;omega
theorem ER.mono (hk:cH Γ Pu I Γ1 Pu1 I1) {E:GE} {E':En} (h:ER Γ Pu I E E'):ER Γ1 Pu1 I1 E E':=fun t=>⟨(h t).1.mono hk,(h t).2.mono hk⟩
theorem bH.mono (hk:cH Γ Pu I Γ1 Pu1 I1) {l:Loc} {et:TypeId} {e:Sh} {no:Nat} {net:TypeId} {ne:Sh} {xs:List e.ty} {em:Em} {ho:Option (Nat×Nat×e.ty)} (hb:∀ b,At I l (.nest et e no net ne xs em ho) b->I1.get b=I.get b) (h:bH Γ Pu I l et e no net ne xs em ho):bH Γ1 Pu1 I1 l et e no net ne xs em ho:=by
 have hpos:∀ b x,l.pos=some (b,x)->I1.get b=I.get b:=fun b x hp=>hb b (.inl ⟨x,hp⟩)
 obtain ⟨h1,h2,h3,h4,h5 |⟨b0,o,vs,f,ex,hp,he,hg,ht,hl,hro,hf,hx,hy,hh,hd,hself⟩⟩:=h
 ·exact ⟨h1,h2,h3,h4,.inl h5⟩
 ·refine ⟨h1,h2,h3,h4,.inr ⟨b0,o,vs,f,ex,hp,he,(hpos b0 o hp).trans hg,ht,hl,hro,hf,fun i x hi=>(hx i x hi).mono hk,fun i x v hi hne hv=>?_,fun i n x hn=>?_,fun i j b' n1 n2=>hd i j b' (n1.congr hpos) (n2.congr hpos),fun i n1=>hself i (n1.congr hpos)⟩⟩
  ·obtain ⟨l',a1,a2⟩:=hy i x v hi hne hv
   refine ⟨l',a1.mono hk.p hk.i fun b x' hp'=>hb b (.inr ⟨i,hne,?_,b0,o,vs,et,f,ex,false,hp,hg,?_⟩),a2⟩
   ·rw [h1];exact (List.getElem?_eq_some_iff.1 hi).1
   ·rw [hv];exact na a2 hp'
  ·obtain ⟨a1,ln,v,a2,a3,a4⟩:=hh i n x hn
   exact ⟨a1,ln,v,hk.g _ _ a2,a3,a4⟩
theorem jO.mono (hk:cH Γ Pu I Γ1 Pu1 I1) {l:Loc} {kt:TypeId} {gk:Bool} {k:Sh} {net:TypeId} {ne:Sh} {xs:List (k.ty×List ne.ty)} {ho:Option (k.ty×Nat)} (hb:∀ b,At I l (.gT kt gk k net ne xs ho) b->I1.get b=I.get b) (h:jO P Γ Pu I l kt gk k net ne xs ho):jO P Γ1 Pu1 I1 l kt gk k net ne xs ho:=by
 have hpos:∀ b x,l.pos=some (b,x)->I1.get b=I.get b:=fun b x hp=>hb b (.inl ⟨x,hp⟩)
 obtain ⟨h1,h2,h3,b0,es,ck,hp,hro,hg,hl,hkk,hx,hh,hd⟩:=h;refine ⟨h1,h2,h3,b0,es,ck,hp,hro,(hpos b0 0 hp).trans hg,hl,fun i x n a b=>(hkk i x n a b).mono hk.p hk.i,fun i x n hi hn hne=>?_,fun y m hm=>?_,fun i j b' n1 n2=>hd i j b' (n1.congr hpos) (n2.congr hpos)⟩
 ·obtain ⟨l',a1,a2⟩:=hx i x n hi hn hne
  exact ⟨l',a1.mono hk.p hk.i fun b x' hp'=>hb b (.inr ⟨i,x,b0,0,es,ck,n,hi,hne,hp,hg,hn,na a2 hp'⟩),a2⟩
 ·obtain ⟨ln,a1,a2⟩:=hh y m hm
  exact ⟨ln,hk.g _ _ a1,a2⟩
theorem OR.mono (hk:cH Γ Pu I Γ1 Pu1 I1) {l:Loc} {o:bL} (hb:∀ b,At I l o b->I1.get b=I.get b) (h:OR P hint Γ Pu I l o):OR P hint Γ1 Pu1 I1 l o:=by
 have hpos:∀ b x,l.pos=some (b,x)->I1.get b=I.get b:=fun b x hp=>hb b (.inl ⟨x,hp⟩)
 cases o with
 |cells et cs w=>
  obtain ⟨b,vs,fz,ex,sd,hp,hg,hr,hw,hu⟩:=h;exact ⟨b,vs,fz,ex,sd,hp,(hpos b 0 hp).trans hg,hr.mono hk,hw,fun x=>hk.p b (hu x)⟩
 |arr et e xs w fz em=>exact jb.mono hk.p hk.i hpos h
 |iter s pos=>obtain ⟨b,hp,hr,hg⟩:=h;exact ⟨b,hp,hr,(hpos b 0 hp).trans hg⟩
 |nest et e no net ne xs em ho=>exact bH.mono hk hb h
 |map kt gk ge k e xs em=>
  obtain ⟨hk0,h1 |⟨b,es,ck,hp,hr,he,hg,hx⟩⟩:=h
  ·exact ⟨hk0,.inl h1⟩
  ·exact ⟨hk0,.inr ⟨b,es,ck,hp,hr,he,(hpos b 0 hp).trans hg,hx.mono hk.p hk.i⟩⟩
 |gT kt gk k net ne xs ho=>exact jO.mono hk hb h
 |loop bO st pd fi E ps dZ body=>obtain ⟨b,E',hp,hr,hg,hE,h1⟩:=h;exact ⟨b,E',hp,hr,(hpos b 0 hp).trans hg,hE.mono hk,h1⟩
theorem OR.rest {l:Loc} {o:bL} (h:OR P hint Γ Pu I l o) (hm:o.dh=false) {b:Nat} (hb:At I l o b):Pu b:=by
 rcases hb with ⟨x,hp⟩ |hb
 ·cases o with
  |cells et cs w=>
   obtain ⟨b',vs,fz,ex,sd,hp',hg',hr,hw,hu⟩:=h;cases hp.symm.trans hp';exact hu hm
  |arr et e xs w fz em=>
   obtain ⟨h1,h2,h3,h4 |⟨b',o,vs,f,ex,sd,hp',he,hg',ht,hl,hx,hw,hu⟩⟩:=h
   ·rw [h4.1] at hp;cases hp
   ·cases hp.symm.trans hp'
    exact hu (by simpa [bL.dh] using hm)
  |_=>cases hm
 ·cases o with
  |nest=>cases hm
  |gT=>cases hm
  |_=>cases hb
theorem aw.dR (hs:aw P hint sh Γ Pu H I) (hk:cH Γ Pu I Γ1 Pu1 I1) {id:Nat} {o:bL} {l:Loc} (hg:H.get id=some o) (hl:Γ id=some l) (hb:o.dh=true->∀ b,At I l o b->I1.get b=I.get b):
  OR P hint Γ1 Pu1 I1 l o:=by
 obtain ⟨l',hl',ho⟩:=hs.obj id o hg;cases hl.symm.trans hl';refine ho.mono hk fun b hat=>?_
 cases hm:o.dh with
 |true=>exact hb hm b hat
 |false=>exact hk.i b (ho.rest hm hat)
theorem aw.eC (hs:aw P hint sh Γ Pu H I) (hk:cH Γ Pu I Γ1 Pu1 I1) {id:Nat} {s:Nat} {l:Loc} {b x:Nat} (h1:H.aT id=some s) (hl:Γ id=some l) (hp:l.pos=some (b,x)) (hb:∀ o,H.get id=some o->o.dh=true->I1.get b=I.get b):I1.get b=I.get b:=by
 obtain ⟨o,hg⟩:=GH.iv h1;obtain ⟨l',hl',ho⟩:=hs.obj id o hg;cases hl.symm.trans hl';cases hm:o.dh with
 |true=>exact hb o hg hm
 |false=>exact hk.i b (ho.rest hm (.inl ⟨x,hp⟩))
theorem aw.NX (hs:aw P hint sh Γ Pu H I) (hpos:∀ id o l b x,H.get id=some o->o.dh=true->Γ id=some l->l.pos=some (b,x)->I1.get b=I.get b) (id id':Nat) (o o':bL) (l l':Loc) (b:Nat) (h1:H.get id=some o) (h2:H.get id'=some o') (h3:o.dh=true) (h4:o'.dh=true) (h5:Γ id=some l) (h6:Γ id'=some l') (h7:At I1 l o b) (h8:At I1 l' o' b):id=id':=
 hs.inj id id' o o' l l' b h1 h2 h3 h4 h5 h6 (h7.congr fun b x hp=>hpos id o l b x h1 h3 h5 hp) (h8.congr fun b x hp=>hpos id' o' l' b x h2 h4 h6 hp)
theorem pF (hpos:∀ id o l b x,H.get id=some o->o.dh=true->Γ id=some l->l.pos=some (b,x)->I1.get b=I.get b) {b:Nat}:bx Γ H I1 b->bx Γ H I b:=fun ⟨id,o,l,h1,h2,h3,h4⟩=>⟨id,o,l,h1,h2,h3,h4.congr fun b x hp=>hpos id o l b x h1 h2 h3 hp⟩
def bc.up (Γ:bc) (id:Nat) (l:Loc):bc:=fun k=>if k=id then some l else Γ k
theorem bc.dG (hs:aw P hint sh Γ Pu H I) {l0:Loc} {id:Nat} {l:Loc} (h:Γ id=some l):Γ.up H.n l0 id=some l:=by
 have:=hs.bj id l h;unfold bc.up;rw [if_neg (by omega)];exact h
theorem jW (hs:aw P hint sh Γ Pu H I) (l0:Loc) (io:bA):cH Γ Pu I (Γ.up H.n l0) Pu (I.new io):=
 ⟨fun _ _ h=>bc.dG hs h,fun _ h=>h,fun b hb=>by rw [IH.az,if_neg (Nat.ne_of_lt (hs.jh hb))]⟩
theorem aw.new (hs:aw P hint sh Γ Pu H I) (o:bL) (io:bA) (l:Loc) (x:Nat) (hp:l.pos=some (I.n,x)) (ho:OR P hint (Γ.up H.n l) Pu (I.new io) l o) (hh:∀ b,¬ o.has (I.new io) l b:=by intro b h;exact h):
  aw P hint sh (Γ.up H.n l) Pu (H.new o) (I.new io)/\Ex (bx Γ H I) Γ Pu H I (Γ.up H.n l) Pu (H.new o) (I.new io):=by
 have hk:=jW hs l io;have old:∀ id o',H.get id=some o'->id≠H.n:=fun id o' h=>by
  obtain ⟨l',hl',_⟩:=hs.obj id o' h;exact Nat.ne_of_lt (hs.bj id l' hl')
 have upn:Γ.up H.n l H.n=some l:=by simp [bc.up]
 have getold:∀ b,b<I.n->(I.new io).get b=I.get b:=fun b hb=>by rw [IH.az,if_neg (Nat.ne_of_lt hb)]
 have atn:∀ b,At (I.new io) l o b->b=I.n:=fun b h=>by
  rcases h with ⟨y,h⟩ |h
  ·rw [hp] at h;cases h;rfl
  ·exact absurd h (hh b)
 have ato:∀ id o' l' b,H.get id=some o'->o'.dh=true->Γ id=some l'->At (I.new io) l' o' b->At I l' o' b:=fun id o' l' b hg hm hl hat=>
  hat.congr fun b y hp'=>getold b (hs.cq (.pos hg hm hl hp'))
 have ownI:∀ b,bx (Γ.up H.n l) (H.new o) (I.new io) b->bx Γ H I b∨b=I.n:=by
  rintro b ⟨id,o',l',hg,hm',hl',hat⟩;rw [GH.az] at hg;split at hg
  ·rename_i h;subst h;rw [upn] at hl';cases hl';cases hg;exact .inr (atn b hat)
  ·rename_i h;unfold bc.up at hl';rw [if_neg h] at hl';exact .inl ⟨id,o',l',hg,hm',hl',ato _ _ _ _ hg hm' hl' hat⟩
 refine ⟨⟨?_,?_,?_,?_,?_,?_,?_,?_,?_,?_,hs.oE hk.p hk.i⟩,⟨fun _ _ h=>bc.dG hs h,Nat.le_succ _,Nat.le_succ _,fun _ h=>h,fun b hb _=>getold b hb,?_,fun b _ h=> .inl h,Nat.le_succ _,?_,?_⟩⟩
 ·intro id o' hg
  rw [GH.az] at hg;split at hg
  ·rename_i h;subst h;cases hg;exact ⟨l,upn,ho⟩
  ·obtain ⟨l',hl',_⟩:=hs.obj id o' hg
   refine ⟨l',bc.dG hs hl',hs.dR hk hg hl' fun hm' b hat=>getold b (hs.cq ⟨id,o',l',hg,hm',hl',hat⟩)⟩
 ·intro id id' o1 o2 l1 l2 b hg hg' hm1 hm2 hl1 hl2 hp1 hp2
  rw [GH.az] at hg hg';unfold bc.up at hl1 hl2;split at hg<;>split at hg'
  ·rename_i h h';rw [h,h']
  ·rename_i h h'
   rw [if_pos h] at hl1;rw [if_neg h'] at hl2;cases hl1;cases hg;have e1:=atn b hp1;have:=hs.cq ⟨id',o2,l2,hg',hm2,hl2,ato _ _ _ _ hg' hm2 hl2 hp2⟩;omega
  ·rename_i h h'
   rw [if_neg h] at hl1;rw [if_pos h'] at hl2;cases hl2;cases hg';have e2:=atn b hp2;have:=hs.cq ⟨id,o1,l1,hg,hm1,hl1,ato _ _ _ _ hg hm1 hl1 hp1⟩;omega
  ·rename_i h h'
   rw [if_neg h] at hl1;rw [if_neg h'] at hl2;exact hs.inj id id' o1 o2 l1 l2 b hg hg' hm1 hm2 hl1 hl2 (ato _ _ _ _ hg hm1 hl1 hp1) (ato _ _ _ _ hg' hm2 hl2 hp2)
 ·intro b hb hpu
  rcases ownI b hb with h |h
  ·exact hs.sep b h hpu
  ·have:=hs.jh hpu;omega
 ·intro id l' h
  unfold bc.up at h
  show id<H.n+1
  split at h
  ·omega
  ·have:=hs.bj id l' h;omega
 ·intro b hb
  have hb':I.n+1<=b:=hb;rw [IH.az,if_neg (by omega)];exact hs.fresh b (by omega)
 ·intro b hb
  obtain ⟨cs,et,fz,ex,sd,hg⟩:=hs.pu b hb;exact ⟨cs,et,fz,ex,sd,(getold b (hs.lt hg)).trans hg⟩
 ·exact Nat.le_succ_of_le hs.ro
 ·exact Nat.le_succ_of_le hs.gn
 ·intro g hg
  obtain ⟨l',h1,h2⟩:=hs.cE g hg;exact ⟨l',bc.dG hs h1,h2⟩
 ·intro id s h
  rw [GH.dT] at h
  show s<H.ck+1
  split at h
  ·cases h;omega
  ·have:=hs.st id s h;omega
 ·intro b hb hown
  rcases ownI b hown with h |h
  ·exact h
  ·omega
 ·intro id hid
  rw [GH.dT,if_neg (by omega)];exact .inr (.inl rfl)
 ·intro id l' b x' s h1 h2 hl' hp'
  exact hs.eC hk h1 hl' hp' fun o' hg hm=>getold b (hs.cq (.pos hg hm hl' hp'))
theorem aw.OE (hs:aw P hint sh Γ Pu H I) (o:bL) (l:Loc) (hp:l.pos=none) (ho:OR P hint (Γ.up H.n l) Pu I l o):
  aw P hint sh (Γ.up H.n l) Pu (H.new o) I/\Ex (bx Γ H I) Γ Pu H I (Γ.up H.n l) Pu (H.new o) I:=by
 have hk:cH Γ Pu I (Γ.up H.n l) Pu I:=⟨fun _ _ h=>bc.dG hs h,fun _ h=>h,fun _ _=>rfl⟩;have upn:Γ.up H.n l H.n=some l:=by simp [bc.up]
 have atn:∀ b,¬ At I l o b:=fun b h=>by
  rcases h with ⟨y,h⟩ |h
  ·rw [hp] at h;cases h
  ·cases o with
   |nest=>obtain ⟨i,_,_,b0,o,_,_,_,_,_,hp',_⟩:=h;rw [hp] at hp';cases hp'
   |gT=>obtain ⟨i,x,b0,o,_,_,_,_,_,hp',_⟩:=h;rw [hp] at hp';cases hp'
   |_=>cases h
 have ownI:∀ b,bx (Γ.up H.n l) (H.new o) I b->bx Γ H I b:=by
  rintro b ⟨id,o',l',hg,hm',hl',hat⟩;rw [GH.az] at hg;split at hg
  ·rename_i h;subst h;rw [upn] at hl';cases hl';cases hg;exact absurd hat (atn b)
  ·rename_i h;unfold bc.up at hl';rw [if_neg h] at hl';exact ⟨id,o',l',hg,hm',hl',hat⟩
 refine ⟨⟨?_,?_,fun b hb=>hs.sep b (ownI b hb),?_,hs.fresh,hs.pu,hs.ro,Nat.le_succ_of_le hs.gn,?_,?_,hs.oE hk.p hk.i⟩,⟨fun _ _ h=>bc.dG hs h,Nat.le_succ _,zai _,fun _ h=>h,fun b hb _=>rfl,fun b _=>ownI b,fun b _ h=> .inl h,Nat.le_succ _,?_,fun _ _ _ _ _ _ _ _ _=>rfl⟩⟩
 ·intro id o' hg
  rw [GH.az] at hg;split at hg
  ·rename_i h;subst h;cases hg;exact ⟨l,upn,ho⟩
  ·obtain ⟨l',hl',ho'⟩:=hs.obj id o' hg
   exact ⟨l',bc.dG hs hl',ho'.mono hk fun _ _=>rfl⟩
 ·intro id id' o1 o2 l1 l2 b hg hg' hm1 hm2 hl1 hl2 hp1 hp2
  rw [GH.az] at hg hg';unfold bc.up at hl1 hl2;split at hg<;>split at hg'
  ·rename_i h h';rw [h,h']
  ·rename_i h h';rw [if_pos h] at hl1;cases hl1;cases hg;exact absurd hp1 (atn b)
  ·rename_i h h';rw [if_pos h'] at hl2;cases hl2;cases hg';exact absurd hp2 (atn b)
  ·rename_i h h'
   rw [if_neg h] at hl1;rw [if_neg h'] at hl2;exact hs.inj id id' o1 o2 l1 l2 b hg hg' hm1 hm2 hl1 hl2 hp1 hp2
 ·intro id l' h
  unfold bc.up at h
  show id<H.n+1
  split at h
  ·omega
  ·have:=hs.bj id l' h;omega
 ·intro g hg
  obtain ⟨l',h1,h2⟩:=hs.cE g hg;exact ⟨l',bc.dG hs h1,h2⟩
 ·intro id s h
  rw [GH.dT] at h
  show s<H.ck+1
  split at h
  ·cases h;omega
  ·have:=hs.st id s h;omega
 ·intro id hid
  rw [GH.dT,if_neg (by omega)];exact .inr (.inl rfl)
theorem aw.hX (hs:aw P hint sh Γ Pu H I) {id:Nat} {o:bL} {l:Loc} {b x:Nat} (hg:H.get id=some o) (hm:o.dh=true) (hl:Γ id=some l) (hp:l.pos=some (b,x)) (o':bL) (io:bA)
  (ho:OR P hint Γ Pu (I.put b io) l o') (hh:∀ b',o'.has (I.put b io) l b'->bx Γ H I b'/\∀ id2 o2 l2,id2≠id->H.get id2=some o2->o2.dh=true->Γ id2=some l2->¬ At I l2 o2 b':=by intro b h;exact absurd h (fun h=>h)):
  aw P hint sh Γ Pu (H.put id o') (I.put b io)/\Ex (bx Γ H I) Γ Pu H I Γ Pu (H.put id o') (I.put b io):=by
 have hown:bx Γ H I b:= .pos hg hm hl hp;have hblt:=hs.cq hown;have hnp:=hs.sep b hown;have hk:cH Γ Pu I Γ Pu (I.put b io):=⟨fun _ _ h=>h,fun _ h=>h,fun b' hb'=>by rw [IH.ah,if_neg (by rintro rfl;exact hnp hb')]⟩;have other:∀ id' o2 l' b',id'≠id->H.get id'=some o2->o2.dh=true->Γ id'=some l'->At I l' o2 b'->(I.put b io).get b'=I.get b':=by
  intro id' o2 l' b' hne hg' hm' hl' hat;rw [IH.ah,if_neg];rintro rfl;exact hne (hs.inj id' id o2 o l' l b' hg' hg hm' hm hl' hl hat (.inl ⟨x,hp⟩))
 have ato:∀ id' o2 l' b',id'≠id->H.get id'=some o2->o2.dh=true->Γ id'=some l'->At (I.put b io) l' o2 b'->At I l' o2 b':=fun id' o2 l' b' hne hg' hm' hl' hat=>
  hat.congr fun b2 y hp2=>other id' o2 l' b2 hne hg' hm' hl' (.inl ⟨y,hp2⟩)
 have atn:∀ b',At (I.put b io) l o' b'->bx Γ H I b'/\∀ id2 o2 l2,id2≠id->H.get id2=some o2->o2.dh=true->Γ id2=some l2->¬ At I l2 o2 b':=fun b' h=>by
  rcases h with ⟨y,h⟩ |h
  ·rw [hp] at h;cases h
   exact ⟨hown,fun id2 o2 l2 hne hg2 hm2 hl2 hat=>hne (hs.inj id2 id o2 o l2 l b hg2 hg hm2 hm hl2 hl hat (.inl ⟨x,hp⟩))⟩
  ·exact hh b' h
 have ownI:∀ b',bx Γ (H.put id o') (I.put b io) b'->bx Γ H I b':=by
  rintro b' ⟨id',o2,l',hg',hm',hl',hat⟩;rw [GH.ah] at hg';split at hg'
  ·rename_i h;subst h;cases hg';cases hl.symm.trans hl';exact (atn b' hat).1
  ·rename_i hne;exact ⟨id',o2,l',hg',hm',hl',ato _ _ _ _ hne hg' hm' hl' hat⟩
 refine ⟨⟨?_,?_,fun b' hb'=>hs.sep b' (ownI b' hb'),hs.bj,?_,?_,hs.ro,hs.gn,hs.cE,?_,hs.oE hk.p hk.i⟩,⟨fun _ _ h=>h,zai _,zai _,fun _ h=>h,?_,fun b' _=>ownI b',fun b' _ h=> .inl h,Nat.le_succ _,?_,?_⟩⟩
 ·intro id' o2 hg'
  rw [GH.ah] at hg';split at hg'
  ·rename_i h;subst h;cases hg';exact ⟨l,hl,ho⟩
  ·rename_i hne
   obtain ⟨l',hl',_⟩:=hs.obj id' o2 hg';exact ⟨l',hl',hs.dR hk hg' hl' fun hm' b' hat=>other id' o2 l' b' hne hg' hm' hl' hat⟩
 ·intro i1 i2 o1 o2 l1 l2 b' hg1 hg2 hm1 hm2 hl1 hl2 hp1 hp2
  rw [GH.ah] at hg1 hg2;split at hg1<;>split at hg2
  ·rename_i h h';rw [h,h']
  ·rename_i h h'
   subst h;cases hg1;cases hl.symm.trans hl1;exact absurd (ato _ _ _ _ h' hg2 hm2 hl2 hp2) ((atn b' hp1).2 _ _ _ h' hg2 hm2 hl2)
  ·rename_i h h'
   subst h';cases hg2;cases hl.symm.trans hl2;exact absurd (ato _ _ _ _ h hg1 hm1 hl1 hp1) ((atn b' hp2).2 _ _ _ h hg1 hm1 hl1)
  ·rename_i h h'
   exact hs.inj i1 i2 o1 o2 l1 l2 b' hg1 hg2 hm1 hm2 hl1 hl2 (ato _ _ _ _ h hg1 hm1 hl1 hp1) (ato _ _ _ _ h' hg2 hm2 hl2 hp2)
 ·intro b' hb'
  rw [IH.ah,if_neg (by have:I.n<=b':=hb';omega)];exact hs.fresh b' hb'
 ·intro b' hb'
  obtain ⟨cs,et,fz,ex,sd,hg'⟩:=hs.pu b' hb';exact ⟨cs,et,fz,ex,sd,(hk.i b' hb').trans hg'⟩
 ·intro id' s h
  rw [GH.fl] at h
  show s<H.ck+1
  split at h
  ·cases h;omega
  ·have:=hs.st id' s h;omega
 ·intro b' _ hno
  rw [IH.ah,if_neg (by rintro rfl;exact hno hown)]
 ·intro id' _
  rw [GH.fl];split
  ·exact .inr (.inr ⟨H.ck,rfl,zai _⟩)
  ·exact .inr (.inl rfl)
 ·intro id' l' b' x' s h1 h2 hl' hp'
  rw [GH.fl] at h2;split at h2
  ·cases h2;have:=hs.st id' _ h1;omega
  ·rename_i hne
   exact hs.eC hk h1 hl' hp' fun o2 hg' hm'=>other id' o2 l' b' hne hg' hm' hl' (.inl ⟨x',hp'⟩)
end
end Go.Gv
/- Lists whose elements hold lists: their cells. -/
namespace Go.Gv
open Go Go.Iv
section
variable {P:Program} {hint:Hint} {sh:cA}
variable {Γ Γ':bc} {Pu Pu':Nat->Prop} {H H':GH} {I I':IH}
theorem Sh.AN:∀ s:Sh,∃ h:s=s,Sh.same s s=some ⟨h⟩:=by
 intro s
 induction s with
 |int k=>exact ⟨rfl,by simp [Sh.same]⟩
 |byte=>exact ⟨rfl,rfl⟩
 |bool=>exact ⟨rfl,rfl⟩
 |str=>exact ⟨rfl,rfl⟩
 |cons a b iha ihb=>
  obtain ⟨h1,e1⟩:=iha;obtain ⟨h2,e2⟩:=ihb;exact ⟨rfl,by simp [Sh.same,e1,e2]⟩
 |aJ e ih=>obtain ⟨h1,e1⟩:=ih;exact ⟨rfl,by simp [Sh.same,e1]⟩
theorem jf:∀ {e:Sh} (x:e.ty),(e.de x).length=e.sz:=by
 intro e
 induction e with
 |cons a b iha ihb=>intro x;simp only [Sh.de,zaf,Sh.sz,iha x.1,ihb x.2]
 |_=>intro x;rfl
def QB:TV->Bool
 | .int _ _ | .byte _ | .bool _ | .str _ | .undef=>true
 |_=>false
theorem bK.flat:∀ {l:List TV} {vs:List Value},l.all QB=true->bK Γ Pu I l vs->bK Γ' Pu' I' l vs:=by
 intro l
 induction l with
 |nil=>intro vs _ h;cases h;exact .nil
 |cons t r ih=>
  intro vs hn h;simp only [List.all_cons,zae] at hn;cases h with |cons a b=>
  refine .cons ?_ (ih hn.2 b);cases t with
  |int k n=>cases a;exact .int k n
  |byte c=>cases a;exact .byte c
  |bool c=>cases a;exact .bool c
  |str c=>cases a;exact .str c
  |undef=>exact .undef _
  |_=>cases hn.1
theorem zS:∀ {e:Sh} (_:zV e=true) (x:e.ty),(e.de x).all QB=true:=by
 intro e
 induction e with
 |cons a b iha ihb=>
  intro h x;simp only [zV,zae] at h;simp only [Sh.de,List.all_append,zae];exact ⟨iha h.1 x.1,ihb h.2 x.2⟩
 |aJ e=>intro h;cases h
 |_=>intro _ x;rfl
theorem eJ:∀ {e:Sh} {no:Nat} {ne:Sh},HW e no ne=true->no<e.sz/\∀ x:e.ty,(e.de x)[no]? =some (.aC ne (aY e no ne x) none false)/\((e.de x).set no .undef).all QB=true/\∀ ys,e.de (du e no ne x ys)=(e.de x).set no (.aC ne ys none false):=by
 intro e
 induction e with
 |cons a b iha ihb=>
  intro no ne h;simp only [HW] at h;cases hb:Nat.blt no a.sz with
  |true=>
   rw [hb] at h;simp only [zac,zae] at h;have hlt:no<a.sz:=Nat.le_of_ble_eq_true hb;obtain ⟨h1,h2⟩:=iha h.1;refine ⟨by simp only [Sh.sz];omega,fun x=>?_⟩;obtain ⟨g1,g2,g3⟩:=h2 x.1;have hl:=jf x.1;refine ⟨?_,?_,fun ys=>?_⟩
   ·simp only [Sh.de,aY,hb]
    rw [List.getElem?_append_left (by omega)];exact g1
   ·simp only [Sh.de]
    rw [List.set_append_left _ _ (by omega),List.all_append,g2,zS h.2 x.2];rfl
   ·simp only [Sh.de,du,hb,g3]
    rw [List.set_append_left _ _ (by omega)]
  |false=>
   rw [hb] at h;simp only [zab,zae] at h;have hge:a.sz<=no:=by
    rcases Nat.lt_or_ge no a.sz with h1 |h1
    ·rw [show Nat.blt no a.sz=true from Nat.ble_eq_true_of_le h1] at hb;cases hb
    ·exact h1
   obtain ⟨h1,h2⟩:=ihb h.2;refine ⟨by simp only [Sh.sz];omega,fun x=>?_⟩;obtain ⟨g1,g2,g3⟩:=h2 x.2;have hl:=jf x.1;refine ⟨?_,?_,fun ys=>?_⟩
   ·simp only [Sh.de,aY,hb]
    rw [List.getElem?_append_right (by omega),hl];exact g1
   ·simp only [Sh.de]
    rw [List.set_append_right _ _ (by omega),List.all_append,hl,g2,zS h.1 x.1];rfl
   ·simp only [Sh.de,du,hb,g3]
    rw [List.set_append_right _ _ (by omega),hl]
 |aJ e _=>
  intro no ne h;cases no with
  |succ n=>cases h
  |zero=>
   simp only [HW] at h;cases hs:Sh.same e ne with
   |none=>rw [hs] at h;cases h
   |some q=>
    obtain ⟨q⟩:=q;subst q;obtain ⟨_,e1⟩:=Sh.AN e;refine ⟨by simp [Sh.sz],fun x=>⟨?_,rfl,fun ys=>?_⟩⟩
    ·simp only [Sh.de,aY,e1];rfl
    ·simp only [Sh.de,du,e1];rfl
 |_=>intro no ne h;cases no<;>cases h
theorem EY {e:Sh} {no:Nat} {ne:Sh} (h:HW e no ne=true) (x:e.ty) (ys:List ne.ty):aY e no ne (du e no ne x ys)=ys:=by
 obtain ⟨h1,h2⟩:=eJ h;have a1:=(h2 (du e no ne x ys)).1;rw [(h2 x).2.2 ys,List.getElem?_set_self (by rw [jf];exact h1)] at a1;have a2:=Option.some.inj a1;injection a2 with _ a3;exact a3.symm
theorem MJ {e:Sh} {no:Nat} {ne:Sh} (h:HW e no ne=true) (x:e.ty) (ys:List ne.ty):(e.de (du e no ne x ys)).set no .undef=(e.de x).set no .undef:=by
 rw [(eJ h).2 x |>.2.2 ys,List.set_set]
end
end Go.Gv
