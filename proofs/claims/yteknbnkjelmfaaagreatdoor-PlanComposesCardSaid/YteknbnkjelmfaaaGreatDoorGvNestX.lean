/- Some objects become others: those that were concerned give their blocks, those that come of them have them. -/
import Derived.Test.YteknbnkjelmfaaaGreatDoorGvMap
set_option linter.unusedSimpArgs false
set_option linter.unusedVariables false
namespace Go.Gv
open Go Go.Iv
section
variable {P:Program} {hint:Hint} {sh:bU}
variable {Γ Γ':aN} {Pu:Nat->Prop} {H H':GH} {I I':IH}
def Of (C:Nat->Prop) (Γ:aN) (H:GH) (I:IH) (b:Nat):Prop:=∃ k o l,C k/\H.get k=some o/\o.cY=true/\Γ k=some l/\At I l o b
theorem Of.own {C:Nat->Prop} {b:Nat} (h:Of C Γ H I b):bk Γ H I b:=by
 obtain ⟨k,o,l,_,h1,h2,h3,h4⟩:=h;exact ⟨k,o,l,h1,h2,h3,h4⟩
theorem au.Nb (hs:au P hint sh Γ Pu H I) (C:Nat->Prop)
  (hg:∀ k o,¬ C k->H'.get k=some o->H.get k=some o)
  (hst:∀ k s,H'.aH k=some s->H.aH k=some s/\¬ C k\/H.ck<=s/\s<H'.ck)
  (hck:H.ck<=H'.ck) (hn:H.n<=H'.n)
  (hΓ:∀ k l,Γ k=some l->Γ' k=some l) (hΓ2:∀ k l,¬ C k->Γ' k=some l->Γ k=some l) (hΓ3:∀ k l,Γ' k=some l->k<H'.n)
  (hI:∀ b,b<I.n->¬ Of C Γ H I b->I'.get b=I.get b) (hIn:I.n<=I'.n) (hfr:∀ b,I'.n<=b->I'.get b=none)
  (hC:∀ k o,C k->H'.get k=some o->∃ l,Γ' k=some l/\OR P hint Γ' Pu I' l o/\o.cY=true/\∀ b,At I' l o b->Of C Γ H I b\/I.n<=b)
  (hinj:∀ k k' o o' l l' b,C k->C k'->H'.get k=some o->H'.get k'=some o'->Γ' k=some l->Γ' k'=some l'->At I' l o b->At I' l' o' b->k=k'):
  au P hint sh Γ' Pu H' I'/\Ex (bk Γ H I) Γ Pu H I Γ' Pu H' I':=by
 have hp:∀ b,Pu b->I'.get b=I.get b:=fun b hb=>hI b (hs.iT hb) fun h=>hs.sep b h.own hb
 have hk:cp Γ Pu I Γ' Pu I':=⟨hΓ,fun _ h=>h,hp⟩;have oth:∀ k o l b,¬ C k->H.get k=some o->o.cY=true->Γ k=some l->At I l o b->¬ Of C Γ H I b:=by
  rintro k o l b hck h1 h2 h3 h4 ⟨k',o',l',c,g1,g2,g3,g4⟩;exact hck ((hs.inj k k' o o' l l' b h1 g1 h2 g2 h3 g3 h4 g4)▸c)
 have ato:∀ k o l b,¬ C k->H.get k=some o->o.cY=true->Γ k=some l->At I' l o b->At I l o b:=fun k o l b hck h1 h2 h3 h4=>
  h4.congr fun b' x hp'=>hI b' (hs.bJ (.pos h1 h2 h3 hp')) (oth k o l b' hck h1 h2 h3 (.inl ⟨x,hp'⟩))
 have ownI:∀ b,bk Γ' H' I' b->bk Γ H I b\/I.n<=b:=by
  rintro b ⟨k,o,l,h1,h2,h3,h4⟩;by_cases c:C k
  .obtain ⟨l',g1,_,_,g2⟩:=hC k o c h1
   cases h3.symm.trans g1;exact (g2 b h4).imp (fun h=>h.own) id
  .have e1:=hg k o c h1
   have e2:=hΓ2 k l c h3;exact .inl ⟨k,o,l,e1,h2,e2,ato k o l b c e1 h2 e2 h4⟩
 refine ⟨⟨?_,?_,fun b h hpu=>(ownI b h).elim (fun h=>hs.sep b h hpu) (fun h=>Nat.lt_irrefl _ (Nat.lt_of_lt_of_le (hs.iT hpu) h)),hΓ3,?_,?_,Nat.le_trans hs.ro hIn,Nat.le_trans hs.gn hn,?_,?_,hs.nK hk.p hk.i⟩,⟨hΓ,hn,hIn,fun _ h=>h,fun b hb ho=>hI b hb fun h=>ho h.own,fun b hb h=>(ownI b h).elim id (fun h=>absurd hb (Nat.not_lt.2 h)),fun _ _ h=> .inl h,hck,?_,?_⟩⟩
 .intro k o h
  by_cases c:C k
  .grind
  .have e1:=hg k o c h
   obtain ⟨l,hl,_⟩:=hs.obj k o e1;exact ⟨l,hΓ k l hl,hs.dF hk e1 hl fun hm b hat=>hI b (hs.bJ ⟨k,o,l,e1,hm,hl,hat⟩) (oth k o l b c e1 hm hl hat)⟩
 .intro k k' o o' l l' b h1 h2 h3 h4 h5 h6 h7 h8
  by_cases c:C k
  .by_cases c':C k'
   .grind
   .obtain ⟨l2,g1,_,_,g2⟩:=hC k o c h1
    cases h5.symm.trans g1;have e1:=hg k' o' c' h2;have e2:=hΓ2 k' l' c' h6;have e3:=ato k' o' l' b c' e1 h4 e2 h8;rcases g2 b h7 with g3 |g3
    .grind
    .exact absurd (hs.bJ ⟨k',o',l',e1,h4,e2,e3⟩) (Nat.not_lt.2 g3)
  .have e1:=hg k o c h1
   have e2:=hΓ2 k l c h5;have e3:=ato k o l b c e1 h3 e2 h7;by_cases c':C k'
   .obtain ⟨l2,g1,_,_,g2⟩:=hC k' o' c' h2
    cases h6.symm.trans g1;rcases g2 b h8 with g3 |g3
    .grind
    .exact absurd (hs.bJ ⟨k,o,l,e1,h3,e2,e3⟩) (Nat.not_lt.2 g3)
   .have e1':=hg k' o' c' h2
    have e2':=hΓ2 k' l' c' h6;exact hs.inj k k' o o' l l' b e1 e1' h3 h4 e2 e2' e3 (ato k' o' l' b c' e1' h4 e2' h8)
 .exact hfr
 .intro b hb
  obtain ⟨cs,et,fz,ex,sd,h⟩:=hs.pu b hb
  grind
 .intro g hgl
  obtain ⟨l,h1,h2⟩:=hs.cq g hgl
  grind
 .intro k s h
  rcases hst k s h with ⟨h1,_⟩ |⟨_,h1⟩
  .exact Nat.lt_of_lt_of_le (hs.st k s h1) hck
  .exact h1
 .intro k hk'
  cases h:H'.aH k with
  |none=>exact .inl rfl
  |some s=>
   grind
 .intro k l b x s h1 h2 h3 h4
  rcases hst k s h2 with ⟨_,c⟩ |⟨g1,_⟩
  .exact hs.ey hk h1 h3 h4 fun o hg' hm=>hI b (hs.bJ (.pos hg' hm h3 h4)) (oth k o l b c hg' hm h3 (.inl ⟨x,h4⟩))
  .have:=hs.st k s h1;omega
theorem au.shift (hs:au P hint sh Γ Pu H I) (C:Nat->Prop)
  (hg:∀ k o,¬ C k->H'.get k=some o->H.get k=some o)
  (hst:∀ k s,H'.aH k=some s->H.aH k=some s/\¬ C k\/H.ck<=s/\s<H'.ck)
  (hck:H.ck<=H'.ck) (hn:H.n<=H'.n)
  (hΓ:∀ k l,Γ k=some l->Γ' k=some l) (hΓ2:∀ k l,¬ C k->Γ' k=some l->Γ k=some l) (hΓ3:∀ k l,Γ' k=some l->k<H'.n)
  (hI:∀ b,¬ Of C Γ H I b->I'.get b=I.get b) (hIn:I'.n=I.n)
  (hC:∀ k o,C k->H'.get k=some o->∃ l,Γ' k=some l/\OR P hint Γ' Pu I' l o/\o.cY=true/\∀ b,At I' l o b->Of C Γ H I b)
  (hinj:∀ k k' o o' l l' b,C k->C k'->H'.get k=some o->H'.get k'=some o'->Γ' k=some l->Γ' k'=some l'->At I' l o b->At I' l' o' b->k=k'):
  au P hint sh Γ' Pu H' I'/\Ex (bk Γ H I) Γ Pu H I Γ' Pu H' I':=
 hs.Nb C hg hst hck hn hΓ hΓ2 hΓ3 (fun b _=>hI b) (Nat.le_of_eq hIn.symm) (fun b hb=>by
  rw [hIn] at hb;by_cases h:Of C Γ H I b
  .have:=hs.bJ h.own;omega
  .rw [hI b h];exact hs.fresh b hb)
  (fun k o c h=>by
   grind) hinj
end
end Go.Gv
/- Lists whose elements hold lists: the operations. -/
namespace Go.Gv
open Go Go.Iv
section
variable {Z:Type} {P:Program} {hint:Hint} {sh:bU} {Γ Γ1 Γ':aN} {Pu Pu1:Nat->Prop} {H H1:GH} {I I1 I':IH} {K:TV->GH->Option Z} {r:Z}
theorem im.isNil {l:Loc} {et:TypeId} {e:Sh} {xs:List e.ty} {w fz:Bool} {v:Value} (h:im Pu I l et e xs w fz .ex) (hv:fF l 0 l.len v) (hx:xs= []):l.pos=none:=by
 obtain ⟨_,_,_,h4 |⟨b,o,vs,f,ex,sd,hp,he,_⟩⟩:=h
 .exact h4.1
 grind
theorem bo.lay {l:Loc} {et:TypeId} {e:Sh} {no:Nat} {net:TypeId} {ne:Sh} {xs:List e.ty} {em:Em} {ho:Option (Nat×Nat×e.ty)} (h:bo Γ Pu I l et e no net ne xs em ho) {i:Nat} {x:e.ty} (hx:xs[i]? =some x) (hho:∀ j n y,ho=some (j,n,y)->j=i)
  {ys:List ne.ty} {ln:Loc} {v:Value} (hn:im Pu I ln net ne ys true false .ex) (hv:fF ln 0 ln.len v) {b0 o:Nat} (hp:l.pos=some (b0,o)) {vs:List Value} {f:Nat} {ex:Bool} (hg:I.get b0=some (.cells vs et f ex false))
  (hI0:I'.get b0=some (.cells (vs.set (o+i*e.sz+no) v) et f ex false)) (hI:∀ b,b≠b0->I'.get b=I.get b) (hk:cp Γ Pu I Γ' Pu I')
  (hb:∀ b,pj v=some b->b≠b0/\∀ j,j≠i->¬ NB I l e.sz no (ho.map (·.1)) b j):
  bo Γ' Pu I' l et e no net ne (xs.set i (dj e no ne x ys)) em none/\∀ b j,NB I' l e.sz no none b j->(j=i/\pj v=some b)\/(j≠i/\NB I l e.sz no (ho.map (·.1)) b j):=by
 obtain ⟨h1,h2,h3,h4,h5 |⟨b1,o1,vs1,f1,ex1,hp1,he,hg1,ht,hl,hro,hf,hE,hy,hh,hd,hself⟩⟩:=h
 .rw [h5.1] at hp;cases hp
 cases hp.symm.trans hp1;cases hg.symm.trans hg1;obtain ⟨hno,hok⟩:=fJ h4;have hi:i<xs.length:=(List.getElem?_eq_some_iff.1 hx).1;have cell:∀ j,j<xs.length->o+j*e.sz+no<vs.length:=fun j hj=>by
  have:(j+1)*e.sz<=xs.length*e.sz:=Nat.mul_le_mul_right _ hj;rw [zaj,Nat.one_mul] at this;omega
 have cne:∀ j,j≠i->o+i*e.sz+no≠o+j*e.sz+no:=fun j hj hc=>by
  have:i*e.sz=j*e.sz:=by omega
  exact hj (Nat.eq_of_mul_eq_mul_right h3 this).symm
 have nb:∀ b j,NB I' l e.sz no none b j->(j=i/\pj v=some b)\/(j≠i/\NB I l e.sz no (ho.map (·.1)) b j):=by
  rintro b j ⟨_,n2,b2,o2,vs2,et2,f2,ex2,sd2,hp2,hg2,hv2⟩;cases hp.symm.trans hp2;rw [hI0] at hg2;cases hg2;have hj:j<xs.length:=by rw [←h1];exact n2
  by_cases hji:j=i
  .subst hji
   rw [List.getElem?_set_self (cell j hj)] at hv2;exact .inl ⟨rfl,hv2⟩
  .rw [List.getElem?_set_ne (cne j hji)] at hv2
   refine .inr ⟨hji,?_,n2,b0,o,vs,et,f,ex,false,hp,hg,hv2⟩;intro hc;cases ho with
   |none=>cases hc
   |some q=>
    obtain ⟨j2,n,y⟩:=q;simp only [Option.map_some,Option.some.injEq] at hc;exact hji (hc▸hho j2 n y rfl)
 refine ⟨⟨by rw [List.length_set];exact h1,h2,h3,h4,.inr ⟨b0,o,_,f,ex,hp,fun hem hc=>he hem (by have:=congrArg List.length hc;rw [List.length_set] at this;exact List.eq_nil_of_length_eq_zero this),hI0,by rw [List.length_set];exact ht,by rw [List.length_set,List.length_set];exact hl,hro,hf,?_,?_,(fun _ _ _ h=>by cases h),?_,?_⟩⟩,nb⟩
 .intro j z hz
  rw [List.getElem?_set] at hz;have drop_set:∀ j,(((vs.set (o+i*e.sz+no) v).drop (o+j*e.sz)).take e.sz)=if j=i then (((vs.drop (o+j*e.sz)).take e.sz).set no v) else ((vs.drop (o+j*e.sz)).take e.sz):=by
   intro j;apply List.ext_getElem?;intro k;rw [List.getElem?_take,List.getElem?_drop];by_cases hk2:k<e.sz
   .rw [if_pos hk2]
    by_cases hji:j=i
    .subst hji
     rw [if_pos rfl,List.getElem?_set,List.getElem?_set,List.getElem?_take,if_pos hk2,List.getElem?_drop];by_cases hkn:no=k
     .subst hkn
      simp only [if_true,List.length_take,List.length_drop];by_cases hc:o+j*e.sz+no<vs.length
      .rw [if_pos hc,if_pos (by omega)]
      .rw [if_neg hc,if_neg (by omega)]
     .rw [if_neg (by omega),if_neg hkn]
    .rw [if_neg hji,List.getElem?_take,if_pos hk2,List.getElem?_drop,List.getElem?_set_ne]
     intro hc;rcases Nat.lt_or_gt_of_ne hji with hlt |hlt
     .have:(j+1)*e.sz<=i*e.sz:=Nat.mul_le_mul_right _ hlt
      rw [zaj,Nat.one_mul] at this;omega
     .have:(i+1)*e.sz<=j*e.sz:=Nat.mul_le_mul_right _ hlt
      rw [zaj,Nat.one_mul] at this;omega
   .rw [if_neg hk2]
    split
    .rw [List.getElem?_set,List.getElem?_take,if_neg hk2]
     split
     .omega
     .rfl
    .rw [List.getElem?_take,if_neg hk2]
  rw [drop_set j];split at hz
  .rename_i hij
   subst hij;cases hz;rw [if_pos rfl,Jw h4];have h0:=(hE i x hx).mono hk;have:=h0.set no (GR.undef (Γ:=Γ') (Pu:=Pu) (I:=I') v)
   rwa [List.set_set] at this
  .rename_i hij
   rw [if_neg (fun hc=>hij hc.symm)];exact (hE j z hz).mono hk
 .intro j z w hz _ hw
  rw [List.getElem?_set] at hz;split at hz
  .rename_i hij
   subst hij
   first |(rw [if_pos hi] at hz) |skip
   cases hz;rw [List.getElem?_set_self (cell i hi)] at hw;cases hw;rw [CK h4];refine ⟨ln,hn.mono hk.p hk.i fun b y hp'=>hI b fun hc=>?_,hv⟩;exact (hb b (mO hv hp')).1 hc
  .rename_i hij
   have hji:j≠i:=fun hc=>hij hc.symm
   rw [List.getElem?_set_ne (cne j hji)] at hw;have hne:ho.map (·.1)≠some j:=fun hc=>by
    cases ho with
    |none=>cases hc
    |some q=>
     obtain ⟨j2,n,y⟩:=q;simp only [Option.map_some,Option.some.injEq] at hc;exact hji (hc▸hho j2 n y rfl)
   obtain ⟨l',a1,a2⟩:=hy j z w hz hne hw;refine ⟨l',a1.mono hk.p hk.i fun b y hp'=>hI b fun hc=>?_,a2⟩;refine hself j ⟨hne,by rw [h1];exact (List.getElem?_eq_some_iff.1 hz).1,b0,o,vs,et,f,ex,false,hp,hg,?_⟩;rw [hw,←hc];exact mO a2 hp'
 .intro j k b n1 n2
  rcases nb b j n1 with ⟨e1,e2⟩ |⟨e1,e2⟩<;>rcases nb b k n2 with ⟨g1,g2⟩ |⟨g1,g2⟩
  .rw [e1,g1]
  .exact absurd g2 ((hb b e2).2 k g1)
  .exact absurd e2 ((hb b g2).2 j e1)
  .exact hd j k b e2 g2
 grind
end
end Go.Gv
/- Lists whose elements hold lists: taken out, laid back. -/
namespace Go.Gv
open Go Go.Iv
section
variable {Z:Type} {P:Program} {hint:Hint} {sh:bU} {Γ Γ1 Γ':aN} {Pu Pu1:Nat->Prop} {H H1:GH} {I I1 I':IH} {K:TV->GH->Option Z} {r:Z}
theorem jC {α:Type} {l:List α} {i:Nat} {a:α} (h:l[i]? =some a):l.set i a=l:=by
 apply List.ext_getElem?
 grind
theorem au.Rp (hs:au P hint sh Γ Pu H I) {id n:Nat} {o o':bu} {l l':Loc} {b x:Nat} (h1:H.get id=some o) (h2:H.get n=some o') (m1:o.cY=true) (m2:o'.cY=true) (g1:Γ id=some l) (g2:Γ n=some l') (hne:id≠n) (hp:l'.pos=some (b,x)):¬ At I l o b:=
 fun h=>hne (hs.inj id n o o' l l' b h1 h2 m1 m2 g1 g2 h (.inl ⟨x,hp⟩))
theorem im.exact {l:Loc} {et:TypeId} {e:Sh} {xs:List e.ty} {w fz:Bool} {em:Em} (h:im Pu I l et e xs w fz em) (hem:em= .ex\/xs≠ []):im Pu I l et e xs w fz .ex:=by
 rcases hem with rfl |hne
 .exact h
 .obtain ⟨h1,h2,h3,h4 |⟨b,o,vs,f,ex,sd,hp,he,hr⟩⟩:=h
  .grind
  .exact ⟨h1,h2,h3,.inr ⟨b,o,vs,f,ex,sd,hp,fun _=>hne,hr⟩⟩
theorem au.Ti (hs:au P hint sh Γ Pu H I) {id m:Nat} {et:TypeId} {e:Sh} {no:Nat} {net:TypeId} {ne:Sh} {xs:List e.ty} {em:Em} {em':Em} {ho:Option (Nat×Nat×e.ty)} {ys:List ne.ty} {l lm:Loc}
  (hg:H.get id=some (.nest et e no net ne xs em ho)) (hl:Γ id=some l) (hgm:H.get m=some (.arr net ne ys true false em')) (hem:em'= .ex\/ys≠ []) (hlm:Γ m=some lm)
  {i:Nat} {x:e.ty} (hx:xs[i]? =some x) (hho:∀ j n y,ho=some (j,n,y)->j=i) {v:Value} (hv:fF lm 0 lm.len v)
  {b0 o:Nat} (hp:l.pos=some (b0,o)) {vs:List Value} {f:Nat} {ex:Bool} (hgb:I.get b0=some (.cells vs et f ex false))
  (hI0:I'.get b0=some (.cells (vs.set (o+i*e.sz+no) v) et f ex false)) (hI:∀ b,b≠b0->I'.get b=I.get b) (hIn:I'.n=I.n):
  au P hint sh Γ Pu ((H.del m).put id (.nest et e no net ne (xs.set i (dj e no ne x ys)) em none)) I'/\
   Ex (bk Γ H I) Γ Pu H I Γ Pu ((H.del m).put id (.nest et e no net ne (xs.set i (dj e no ne x ys)) em none)) I':=by
 obtain ⟨l1,hl1,hN⟩:=hs.obj id _ hg;cases hl.symm.trans hl1;obtain ⟨l2,hl2,hA0⟩:=hs.obj m _ hgm;cases hlm.symm.trans hl2;have hA:im Pu I lm net ne ys true false .ex:=im.exact hA0 hem;have hne:id≠m:=by rintro rfl;rw [hg] at hgm;cases hgm
 have hown:bk Γ H I b0:= .pos hg rfl hl hp;have hnp:=hs.sep b0 hown;have hk:cp Γ Pu I Γ Pu I':=⟨fun _ _ h=>h,fun _ h=>h,fun b hb=>hI b fun hc=>hnp (hc▸hb)⟩;have hap:∀ b,pj v=some b->¬ At I l (.nest et e no net ne xs em ho) b:=fun b hb=>by
  obtain ⟨y,hy⟩:=tt hv hb;exact hs.Rp hg hgm rfl rfl hl hlm hne hy
 obtain ⟨q1,q2⟩:=bo.lay (Γ':=Γ) hN hx hho hA hv hp hgb hI0 hI hk (fun b hb=>⟨fun hc=>hap b hb (.inl ⟨o,hc▸hp⟩),fun j _ hn=>hap b hb (.inr ⟨j,hn⟩)⟩);refine hs.shift (fun k=>k=id\/k=m) ?_ ?_ (Nat.le_succ _) (zal _) (fun _ _ h=>h) (fun _ _ _ h=>h) hs.aT ?_ hIn ?_ ?_
 .intro k ob hc h
  rw [GH.ag,GH.cf] at h
  grind
 .intro k s h
  rw [GH.eZ,GH.eu] at h;split at h
  .cases h;exact .inr ⟨zal _,Nat.lt_succ_self _⟩
  grind
 .intro b hb
  exact hI b fun hc=>hb ⟨id,_,l,.inl rfl,hg,rfl,hl,.inl ⟨o,hc▸hp⟩⟩
 .intro k ob hc h
  rw [GH.ag,GH.cf] at h;split at h
  .rename_i h1
   subst h1;cases h;refine ⟨l,hl,q1,rfl,fun b hat=>?_⟩;rcases hat with ⟨y,h2⟩ |⟨j,hj⟩
   .exact ⟨k,_,l,.inl rfl,hg,rfl,hl,.inl ⟨y,h2⟩⟩
   .rcases q2 b j hj with ⟨_,h3⟩ |⟨_,h3⟩
    .obtain ⟨y,hy⟩:=tt hv h3
     exact ⟨m,_,lm,.inr rfl,hgm,rfl,hlm,.inl ⟨y,hy⟩⟩
    .exact ⟨k,_,l,.inl rfl,hg,rfl,hl,.inr ⟨j,h3⟩⟩
  grind
 .intro k k' ob ob' l1 l2 b c1 c2 g1 g2 _ _ _ _
  have key:∀ {k ob},(k=id\/k=m)->((H.del m).put id (.nest et e no net ne (xs.set i (dj e no ne x ys)) em none)).get k=some ob->k=id:=fun {k ob} hc h=>by
   rw [GH.ag,GH.cf] at h;split at h
   .assumption
   .rename_i h1
    split at h
    .cases h
    .rename_i h2;exact absurd hc (fun h=>h.elim h1 h2)
  grind
theorem jP (hs:au P hint sh Γ Pu H I) (id:Nat):au P hint sh Γ Pu (lI H id) I/\Ex (bk Γ H I) Γ Pu H I Γ Pu (lI H id) I:=by
 unfold lI;split
 .rename_i et e no net ne xs em i n x hg
  split
  .rename_i net' ne' ys hgn
   cases hb:Nat.beq net' net with
   |false=>exact ⟨hs,Ex.refl hs⟩
   |true=>
    have:=beq_true hb;subst this;simp only [zac];split
    .rename_i hh _
     subst hh;obtain ⟨l,hl,hN⟩:=hs.obj id _ hg;have hN':bo Γ Pu I l et e no net' ne' xs em (some (i,n,x)):=hN;obtain ⟨h1,h2,h3,h4,h5 |⟨b0,o,vs,f,ex,hp,he,hgb,ht,hlen,hro,hf,hE,hy,hh,hd,hself⟩⟩:=hN'
     .cases h5.2.2.2
     .obtain ⟨hx,ln,v,a2,a3,a4⟩:=hh i n x rfl
      exact hs.Ti hg hl hgn (.inl rfl) a2 hx (fun j k y h=>by cases h;rfl) a4 hp hgb (by rw [jC a3];exact hgb) (fun _ _=>rfl) rfl
    .exact ⟨hs,Ex.refl hs⟩
  .exact ⟨hs,Ex.refl hs⟩
 .exact ⟨hs,Ex.refl hs⟩
theorem bo.cells {l:Loc} {et:TypeId} {e:Sh} {no:Nat} {net:TypeId} {ne:Sh} {xs:List e.ty} {em:Em} {ho:Option (Nat×Nat×e.ty)} (h:bo Γ Pu I l et e no net ne xs em ho) {i:Nat} {x:e.ty} (hx:xs[i]? =some x) {b o:Nat} (hp:l.pos=some (b,o)) (off:Nat) (hoff:off<=e.sz):
  ∃ bs f ex,I.get b=some (.cells bs et f ex false)/\o+i*l.sz+off+(((e.cV x).set no .undef).drop off).length<=bs.length/\br Γ Pu I (((e.cV x).set no .undef).drop off) ((bs.drop (o+i*l.sz+off)).take (((e.cV x).set no .undef).drop off).length):=by
 obtain ⟨h1,h2,h3,h4,h5 |⟨b0,o',vs,f,ex,hp2,he,hgb,ht,hlen,hro,hf,hE,_⟩⟩:=h
 .grind
 .cases hp.symm.trans hp2
  have hr:=hE i x hx;have hlt:((e.cV x).set no .undef).length=e.sz:=by rw [List.length_set,px]
  have hil:i<xs.length:=(List.getElem?_eq_some_iff.1 hx).1;have hb:o+i*e.sz+e.sz<=vs.length:=by
   have:(i+1)*e.sz<=xs.length*e.sz:=Nat.mul_le_mul_right _ hil;rw [zaj,Nat.one_mul] at this;omega
  have hd:=hr.drop off;rw [h2];have e1:(((e.cV x).set no .undef).drop off).length=e.sz - off:=by rw [List.length_drop,hlt]
  refine ⟨vs,f,ex,hgb,by rw [e1];omega,?_⟩;rw [e1];rw [List.drop_take,zak] at hd;exact hd
theorem Ja (hs:au P hint sh Γ Pu H I) {t:TypeId} {id i off:Nat} {a':Value} (h:Ay dS P H t id i off K=some r) (ha:GR Γ Pu I (.iO id i off) a'):Good P hint sh K r Γ Pu H I (an (dc P I t a')):=by
 unfold Ay at h;cases ha with |iO hl hp=>
 split at h
 .rename_i et e no net ne xs em ho hg
  replace h:=ad h;obtain ⟨hb,h⟩:=h;obtain ⟨x,hx,h2⟩:=ef h;split at h2
  .rename_i y hy
   obtain ⟨l',hl',hN⟩:=hs.obj id _ hg;cases hl.symm.trans hl';obtain ⟨bs,f,ex,hgb,hle,hr⟩:=bo.cells hN hx hp off (aF hb);obtain ⟨v,hv,hrv⟩:=iA (P:=P) (t:=t) hgb hle hr hy;simp only [dc,hv,an];exact Good.same hs h2 hrv
  .cases h2
 .cases h
theorem au.S1 (hs:au P hint sh Γ Pu H I) {id:Nat} {et:TypeId} {e:Sh} {no:Nat} {net:TypeId} {ne:Sh} {xs:List e.ty} {em:Em} {l:Loc}
  (hg:H.get id=some (.nest et e no net ne xs em none)) (hl:Γ id=some l) {i:Nat} {x:e.ty} (hx:xs[i]? =some x) {b0 o:Nat} (hp:l.pos=some (b0,o)):
  ∃ vs f ex v l',I.get b0=some (.cells vs et f ex false)/\vs[o+i*l.sz+no]? =some v/\GR (Γ.up H.n l') Pu I (.all H.n) v/\
   au P hint sh (Γ.up H.n l') Pu ((H.put id (.nest et e no net ne xs em (some (i,H.n,x)))).new (.arr net ne (aL e no ne x) true false .ex)) I/\
   Ex (bk Γ H I) Γ Pu H I (Γ.up H.n l') Pu ((H.put id (.nest et e no net ne xs em (some (i,H.n,x)))).new (.arr net ne (aL e no ne x) true false .ex)) I:=by
 obtain ⟨l1,hl1,hN⟩:=hs.obj id _ hg;cases hl.symm.trans hl1;have hN':bo Γ Pu I l et e no net ne xs em none:=hN;obtain ⟨h1,h2,h3,h4,h5 |⟨b1,o1,vs,f,ex,hp1,he,hgb,ht,hlen,hro,hf,hE,hy,hh,hd,hself⟩⟩:=hN'
 .grind
 cases hp.symm.trans hp1;obtain ⟨hno,_⟩:=fJ h4;have hi:i<xs.length:=(List.getElem?_eq_some_iff.1 hx).1;have hcell:o+i*e.sz+no<vs.length:=by
  have:(i+1)*e.sz<=xs.length*e.sz:=Nat.mul_le_mul_right _ hi;rw [zaj,Nat.one_mul] at this;omega
 have hv:vs[o+i*e.sz+no]? =some vs[o+i*e.sz+no]:=zam hcell;generalize vs[o+i*e.sz+no]=v at hv;obtain ⟨l',a1,a2⟩:=hy i x v hx (by simp) hv;have hidn:id<H.n:=hs.aT id l hl;have hk:cp Γ Pu I (Γ.up H.n l') Pu I:=⟨fun _ _ h=>aN.dm hs h,fun _ h=>h,fun _ _=>rfl⟩;have upn:Γ.up H.n l' H.n=some l':=by simp [aN.up]
 have old:∀ k ob,H.get k=some ob->k≠H.n:=fun k ob h=>by
  obtain ⟨lk,hlk,_⟩:=hs.obj k ob h;exact Nat.ne_of_lt (hs.aT k lk hlk)
 have stay:∀ b j,NB I l e.sz no (some i) b j->j≠i/\NB I l e.sz no none b j:=by
  rintro b j ⟨n1,n2⟩;exact ⟨fun hc=>n1 (by rw [hc]),by simp,n2⟩
 have outb:∀ b y,l'.pos=some (b,y)->NB I l e.sz no none b i:=fun b y hp'=>⟨by simp,by rw [h1];exact hi,b0,o,vs,et,f,ex,false,hp,hgb,by rw [hv];exact mO a2 hp'⟩
 have newN:bo (Γ.up H.n l') Pu I l et e no net ne xs em (some (i,H.n,x)):=by
  refine ⟨h1,h2,h3,h4,.inr ⟨b0,o,vs,f,ex,hp,he,hgb,ht,hlen,hro,hf,fun j z hz=>(hE j z hz).mono hk,fun j z w hz _ hw=>?_,fun j n z hz=>?_,fun j k b n1 n2=>hd j k b (stay b j n1).2 (stay b k n2).2,fun j n1=>hself j (stay b0 j n1).2⟩⟩
  .grind
  .grind
 have hget:∀ k,((H.put id (.nest et e no net ne xs em (some (i,H.n,x)))).new (.arr net ne (aL e no ne x) true false .ex)).get k=if k=H.n then some (.arr net ne (aL e no ne x) true false .ex) else if k=id then some (.nest et e no net ne xs em (some (i,H.n,x))) else H.get k:=fun k=>by
  rw [GH.ay,GH.ag];rfl
 have hstm:∀ k,((H.put id (.nest et e no net ne xs em (some (i,H.n,x)))).new (.arr net ne (aL e no ne x) true false .ex)).aH k=if k=H.n then some (H.ck+1) else if k=id then some H.ck else H.aH k:=fun k=>by
  rw [GH.dI,GH.eZ];rfl
 obtain ⟨s1,e1⟩:=hs.shift (H':=(H.put id (.nest et e no net ne xs em (some (i,H.n,x)))).new (.arr net ne (aL e no ne x) true false .ex)) (Γ':=Γ.up H.n l') (I':=I) (fun k=>k=id\/k=H.n)
  (fun k ob hc h=>by
   grind)
  (fun k s h=>by
   rw [hstm] at h
   show _\/_/\s<H.ck+1+1
   grind)
  (by show H.ck<=H.ck+1+1;omega) (Nat.le_succ _) hk.g
  (fun k lk hc h=>by
   unfold aN.up at h
   grind)
  (fun k lk h=>by
   unfold aN.up at h
   show k<H.n+1
   split at h
   .omega
   .have:=hs.aT k lk h;omega)
  (fun _ _=>rfl) rfl
  (fun k ob hc h=>by
   rw [hget] at h;split at h
   .rename_i c
    subst c;cases h;refine ⟨l',upn,a1,rfl,fun b hat=>?_⟩;rcases hat with ⟨y,hp'⟩ |hh'
    .exact ⟨id,_,l,.inl rfl,hg,rfl,hl,.inr ⟨i,outb b y hp'⟩⟩
    .exact absurd hh' (fun h=>h)
   .split at h
    .rename_i c
     subst c;cases h;refine ⟨l,hk.g _ _ hl,newN,rfl,fun b hat=>?_⟩;rcases hat with hat |⟨j,hj⟩
     .exact ⟨k,_,l,.inl rfl,hg,rfl,hl,.inl hat⟩
     .exact ⟨k,_,l,.inl rfl,hg,rfl,hl,.inr ⟨j,(stay b j hj).2⟩⟩
    omega)
  (fun k k' ob ob' l1 l2 b c1 c2 g1 g2 e1 e2 t1 t2=>by
   have cross:∀ b,At I l' (.arr net ne (aL e no ne x) true false .ex) b->At I l (.nest et e no net ne xs em (some (i,H.n,x))) b->False:=fun b u1 u2=>by
    rcases u1 with ⟨y,hp'⟩ |hh'
    .have hb:=outb b y hp'
     rcases u2 with ⟨z,hz⟩ |⟨j,hj⟩
     .rw [hp] at hz;cases hz;exact hself i hb
     .obtain ⟨q1,q2⟩:=stay b j hj
      exact q1 (hd j i b q2 hb)
    .exact hh'
   rw [hget] at g1 g2;split at g1<;>split at g2
   .rename_i a b;rw [a,b]
   .rename_i a b
    subst a;cases g1;rw [upn] at e1;cases e1;split at g2
    .rename_i c
     subst c;cases g2;cases (hk.g _ _ hl).symm.trans e2;exact (cross _ t1 t2).elim
    .rename_i c;exact absurd c2 (fun h=>h.elim c b)
   .rename_i a b
    subst b;cases g2;rw [upn] at e2;cases e2;split at g1
    .rename_i c
     subst c;cases g1;cases (hk.g _ _ hl).symm.trans e1;exact (cross _ t2 t1).elim
    .rename_i c;exact absurd c1 (fun h=>h.elim c a)
   omega)
 exact ⟨vs,f,ex,v,l',hgb,by rw [h2];exact hv,.all upn a2,s1,e1⟩
end
end Go.Gv
/- Lists whose elements hold lists: the operations. -/
namespace Go.Gv
open Go Go.Iv
section
variable {Z:Type} {P:Program} {hint:Hint} {sh:bU} {Γ Γ1 Γ':aN} {Pu Pu1:Nat->Prop} {H H1:GH} {I I1 I':IH} {K:TV->GH->Option Z} {r:Z}
theorem Good.after (hs:au P hint sh Γ Pu H I) (h1:au P hint sh Γ1 Pu1 H1 I1) (he:Ex (bk Γ H I) Γ Pu H I Γ1 Pu1 H1 I1) {run:Option (Value×IH)} (h:Good P hint sh K r Γ1 Pu1 H1 I1 run):Good P hint sh K r Γ Pu H I run:=by
 obtain ⟨t,H2,Γ2,Pu2,v,I2,a,b,c,d,e⟩:=h;exact ⟨t,H2,Γ2,Pu2,v,I2,a,b,c,d,Ex.trans hs h1 he e⟩
theorem Mz (hs:au P hint sh Γ Pu H I) {t:TypeId} {x:TV} {x':Value} (h:Gz P H t x K=some r) (hx:GR Γ Pu I x x'):Good P hint sh K r Γ Pu H I (an (Iv.valOf I (fI P I t x'))):=by
 unfold Gz at h;split at h
 .rename_i e id hu
  split at h
  .rename_i et e' no net ne xs em ho hg
   cases hx with |all hl hv=>
   obtain ⟨l',hl',ho⟩:=hs.obj _ _ hg;cases hl.symm.trans hl';obtain ⟨a,c,rfl,_⟩:=hv.some;have h1:=ho.1;simp only [fI,hu,Iv.valOf,an,h1];exact Good.same hs h (.int _ _)
  .exact Gg hs h hx
 .exact Gg hs h hx
theorem sX {t:TypeId} {e:Sh} {xs:List e.ty} {nl:Option Bool} {cl:Bool} {ix:TV}:fa dS P sh H t (.aB e xs nl cl) ix K=eP dS P sh H t (.aB e xs nl cl) ix K:=by
 unfold fa
 grind
theorem uJ (hs:au P hint sh Γ Pu H I) {t:TypeId} {x ix:TV} {x' ix':Value} (h:fa dS P sh H t x ix K=some r) (hx:GR Γ Pu I x x') (hi:GR Γ Pu I ix ix'):Good P hint sh K r Γ Pu H I (an (bm P I t x' ix')):=by
 unfold fa at h;split at h
 .rename_i e id _ i hu
  split at h
  .rename_i inf et s no net ne xs em ho hinf hg
   cases hi;cases hx with |all hl hv=>
   replace h:=ad h;obtain ⟨hb,h⟩:=h;replace h:=aE h;obtain ⟨hc,h⟩:=h;replace hc:=ae hc;obtain ⟨hc1,hc2⟩:=hc;have c1:=bM hc1;have c2:=ly hc2;obtain ⟨l',hl',ho⟩:=hs.obj _ _ hg;cases hl.symm.trans hl';have h1:=ho.1;have h2:=ho.2.1;have hlt:i.toNat<xs.length:=by omega
   unfold fF at hv;split at hv
   .omega
   .rename_i b o hp
    obtain ⟨cap,rfl,_⟩:=hv;have:=GR.iO (Γ:=Γ) (Pu:=Pu) (I:=I) (i:=i.toNat) (off:=0) hl hp;rw [Nat.add_zero,h2,beq_true hb] at this;simp only [bm,hu,hinf,h1,pF c1 hlt,if_true,an,Nat.zero_mul,Nat.add_zero];exact Good.same hs h this
  .exact nh hs h hx hi
 .exact nh hs h hx hi
theorem Py (hs:au P hint sh Γ Pu H I) {t:TypeId} {id i off:Nat} {a':Value} (h:R3 dS H id i off K=some r) (hag:gI P t=some false) (ha:GR Γ Pu I (.iO id i off) a'):Good P hint sh K r Γ Pu H I (an (dc P I t a')):=by
 unfold R3 at h;cases ha with |iO hl hp=>
 split at h
 .rename_i et e no net ne xs em hg
  replace h:=ad h;obtain ⟨hb,h⟩:=h;replace h:=ef h;obtain ⟨x,hx,h⟩:=h;have:=beq_true hb;subst this;obtain ⟨vs,f,ex,v,l',q1,q2,q3,q4,q5⟩:=hs.S1 hg hl hx hp;have hld:∀ o,vs[o]? =some v->l7 P I t _ o=some v:=fun o ho=>by unfold l7;rw [hag];simp only;rw [q1];exact ho
  simp only [dc,hld _ q2,an];exact ⟨_,_,_,_,_,_,h,rfl,q3,q4,q5⟩
 .cases h
theorem br.setAt {b:TV} {v:Value} (hb:GR Γ Pu I b v):∀ {ts:List TV} {k:Nat} {ws:List Value} {a:TV},br Γ Pu I (ts.set k a) ws->ws[k]? =some v->br Γ Pu I (ts.set k b) ws:=by
 intro ts
 induction ts with
 |nil=>grind
 |cons t r ih=>
  intro k ws a h hw;cases k with
  |zero=>
   cases h with |cons x y=>
   cases hw;exact .cons hb y
  |succ k=>
   cases h with |cons x y=>exact .cons x (ih y hw)
theorem Jl (hs:au P hint sh Γ Pu H I) {t:TypeId} {id i:Nat} {a':Value} (h:Fz dS P H t id i K=some r) (ha:GR Γ Pu I (.iO id i 0) a'):Good P hint sh K r Γ Pu H I (an (dc P I t a')):=by
 unfold Fz at h;cases ha with |iO hl hp=>
 rename_i b0 o0 l0;split at h
 .rename_i et e no net ne xs em hg
  replace h:=ef h;obtain ⟨x,hx,h⟩:=h;split at h
  .rename_i y hy
   obtain ⟨l1,hl1,hN⟩:=hs.obj id _ hg;cases hl.symm.trans hl1;obtain ⟨vs,f,ex,v,l',q1,q2,q3,q4,q5⟩:=hs.S1 hg hl hx hp;obtain ⟨bs,f',ex',hgb,hle,hr⟩:=bo.cells hN hx hp 0 (Nat.zero_le _);cases q1.symm.trans hgb;have hk:=q5.cy hs;have hr2:=hr.mono hk;simp only [List.drop_zero,Nat.add_zero] at hr2 hle;have hlen:((e.cV x).set no (.all H.n)).length=((e.cV x).set no .undef).length:=by rw [List.length_set,List.length_set]
   have hr3:br (Γ.up H.n l') Pu I ((e.cV x).set no (.all H.n)) ((vs.drop (o0+i*l0.sz)).take ((e.cV x).set no (.all H.n)).length):=by
    rw [hlen];by_cases hno:no<(e.cV x).length
    .refine br.setAt q3 hr2 ?_
     grind
    .rw [List.set_eq_of_length_le (by omega)] at hr2 ⊢
     grind
   obtain ⟨w,hw,hrw⟩:=iA (P:=P) (t:=t) hgb (by omega) hr3 hy;simp only [dc,Nat.add_zero,hw,an];exact ⟨_,_,_,_,_,_,h,rfl,hrw,q4,q5⟩
  .cases h
 .cases h
theorem Fe {t:TypeId} {cs:List TV}:lC dS P sh H t (.nL cs) K=ny dS P H t (.nL cs) K:=by
 unfold lC;split<;>rfl
theorem JC (hs:au P hint sh Γ Pu H I) {t:TypeId} {a:TV} {a':Value} (h:lC dS P sh H t a K=some r) (ha:GR Γ Pu I a a'):Good P hint sh K r Γ Pu H I (an (dc P I t a')):=by
 unfold lC at h;split at h
 .exact vN hs h ha
 .split at h
  .rename_i id i off
   split at h
   .rename_i no _
    cases hb:(KM P t &&Nat.beq off no) with
    |true=>
     rw [hb] at h;simp only [zac] at h;split at h
     .rename_i hag
      obtain ⟨s1,e1⟩:=jP hs id;exact (Py s1 h hag ha).after hs s1 e1
     .cases h
    |false=>
     rw [hb] at h;simp only [zab] at h;cases hw:(BL sh t &&Nat.beq off 0) with
     |true=>
      rw [hw] at h;have h0:off=0:=beq_true (ae hw).2;subst h0;obtain ⟨s1,e1⟩:=jP hs id;exact (Jl s1 h ha).after hs s1 e1
     |false=>
      rw [hw] at h;exact Ja hs h ha
   .exact vN hs h ha
  .exact vN hs h ha
theorem NP (hs:au P hint sh Γ Pu H I) {t:TypeId} {id i off m:Nat} {inf:TypeInfo} {a' x':Value} (h:Nx dS H id i m K=some r) (hno:yD H id=some off) (hi:P.info? t=some inf) (hsz:inf.size=1) (ha:GR Γ Pu I (.iO id i off) a') (hx:GR Γ Pu I (.all m) x'):Good P hint sh K r Γ Pu H I (an (bK P I t a' x')):=by
 unfold Nx at h;cases ha with |iO hl hp=>
 rename_i b o l;split at h
 .rename_i et e no net ne xs em ho net' ne' ys em' hg hgm
  have hno':no=off:=by unfold yD at hno;rw [hg] at hno;exact Option.some.inj hno
  subst hno';replace h:=ad h;obtain ⟨hb,h⟩:=h;have:=beq_true hb;subst this;split at h
  .rename_i hh _
   subst hh;replace h:=aE h;obtain ⟨hem0,h⟩:=h;have hem:em'= .ex\/ys≠ []:=by
    cases em' with
    |ex=>exact .inl rfl
    |_=>grind
   cases hx with |all hlm hv=>
   obtain ⟨l1,hl1,hN⟩:=hs.obj id _ hg;cases hl.symm.trans hl1;have hone:x'.cells.toList= [x']:=jG (GR.one (Γ:=Γ) (Pu:=Pu) (I:=I) (.all hlm hv) rfl);have hxs:∃ x,xs[i]? =some x/\(∀ j n y,ho=some (j,n,y)->j=i)/\K .undef ((H.del m).put id (.nest et e no net' ne' (xs.set i (dj e no ne' x ys)) em none))=some r:=by
    split at h
    .obtain ⟨x,h1,h2⟩:=ef h
     exact ⟨x,h1,fun _ _ _ h=>(by cases h),h2⟩
    .rename_i j n x
     replace h:=ad h;obtain ⟨_,h⟩:=h;replace h:=aE h;obtain ⟨hj,h⟩:=h;have:=beq_true hj;subst this;have hN':bo Γ Pu I l et e no net' ne' xs em (some (i,n,x)):=hN;obtain ⟨_,_,_,_,h5 |⟨_,_,_,_,_,_,_,_,_,_,_,_,_,_,hh,_⟩⟩:=hN'
     .cases h5.2.2.2
     .exact ⟨x,(hh i n x rfl).1,fun _ _ _ h=>(by cases h;rfl),h⟩
   obtain ⟨x,hxi,hho,hK⟩:=hxs;have hN':bo Γ Pu I l et e no net' ne' xs em ho:=hN;obtain ⟨h1,h2,h3,h4,h5 |⟨b0,o0,vs,f,ex,hp0,he,hgb,ht,hlen,hro,hf,hrest⟩⟩:=hN'
   .grind
   cases hp.symm.trans hp0;obtain ⟨hnlt,_⟩:=fJ h4;have hil:i<xs.length:=(List.getElem?_eq_some_iff.1 hxi).1;have hcell:o+i*e.sz+no<vs.length:=by
    have:(i+1)*e.sz<=xs.length*e.sz:=Nat.mul_le_mul_right _ hil;rw [zaj,Nat.one_mul] at this;omega
   have hst:=iJ (off:=o+i*l.sz+no) (vs:=x'.cells.toList) hgb hro (by omega) (by grind) (by rw [hone];simp only [List.all_cons,List.all_nil,Bool.and_true];exact GR.one (Γ:=Γ) (Pu:=Pu) (I:=I) (.all hlm hv) rfl) (by rw [hone];simp);have hsz':x'.cells.size=inf.size:=by rw [←Array.length_toList,hone,hsz];rfl
   simp only [bK,nr,hi,if_pos hsz',hst,an];obtain ⟨q1,q2⟩:=hs.Ti (I':=I.put b (.cells (aA vs (o+i*l.sz+no) x'.cells.toList) et f ex false)) hg hl hgm hem hlm hxi hho hv hp hgb (by rw [IH.ag,if_pos rfl,hone,h2];rfl) (fun b' hb'=>by rw [IH.ag,if_neg hb']) rfl;exact ⟨_,_,_,_,_,_,hK,rfl,.undef _,q1,q2⟩
  .cases h
 .cases h
end
end Go.Gv
/- Lists whose elements hold lists: an element's other cells are written. -/
namespace Go.Gv
open Go Go.Iv
section
variable {Z:Type} {P:Program} {hint:Hint} {sh:bU} {Γ Γ1 Γ':aN} {Pu Pu1:Nat->Prop} {H H1:GH} {I I1 I':IH} {K:TV->GH->Option Z} {r:Z}
def HO:TV->Bool
 | .int _ _ | .byte _ | .bool _ | .str _ | .aB _ _ none false=>true
 |_=>false
theorem Qd:∀ {e:Sh} (x:e.ty),(e.cV x).all HO=true:=by
 intro e
 induction e with
 |cons a b iha ihb=>intro x;simp only [Sh.cV,List.all_append,iha x.1,ihb x.2,Bool.and_true]
 |_=>intro x;rfl
theorem Fi {t:TV} (h:vR t=true):HO t=true:=by cases t<;>first |rfl |cases h
theorem Cf:∀ {ts l:List TV} {o:Nat},l.all HO=true->ts.all vR=true->(dO l o ts).all HO=true:=by
 intro ts
 induction ts with
 |nil=>intro l o h _;exact h
 |cons t ts ih=>
  intro l o h k;simp only [List.all_cons,zae] at k;refine ih ?_ k.2;rw [List.all_eq_true] at h ⊢;intro x hx;rcases List.mem_or_eq_of_mem_set hx with h1 |h1
  .exact h x h1
  .rw [h1];exact Fi k.1
theorem Sp:∀ {s:Sh} {l q:List TV} {x:s.ty},s.of l=some (x,q)->l.all HO=true->l=s.cV x++q:=by
 intro s
 induction s with
 |int k=>
  intro l q x h hc;simp only [Sh.of] at h;unfold ofInt at h;split at h
  .split at h
   .rename_i hk;subst hk;cases h;rfl
   .cases h
  .cases h
 |byte=>intro l q x h hc;simp only [Sh.of] at h;unfold yK at h;split at h<;>cases h;rfl
 |bool=>intro l q x h hc;simp only [Sh.of] at h;unfold ofBool at h;split at h<;>cases h;rfl
 |str=>intro l q x h hc;simp only [Sh.of] at h;unfold ofStr at h;split at h<;>cases h;rfl
 |cons a b iha ihb=>
  intro l q x h hc;simp only [Sh.of] at h;split at h
  .rename_i y l1 h1
   split at h
   .rename_i z l2 h2
    cases h;have e1:=iha h1 hc;subst e1;rw [List.all_append,zae] at hc;have e2:=ihb h2 hc.2;subst e2;simp only [Sh.cV,List.append_assoc]
   .cases h
  .cases h
 |bH e ih=>
  intro l q x h hc;simp only [Sh.of] at h;unfold xG at h;split at h
  .rename_i e' xs nl cl r'
   split at h
   .rename_i hh hs
    subst hh;cases h;simp only [List.all_cons,zae] at hc;cases nl with
    |some b=>cases hc.1
    |none=>cases cl with
     |true=>cases hc.1
     |false=>rfl
   .cases h
  .simp only [List.all_cons,zae] at hc;cases hc.1
  .cases h
theorem JE {s:Sh} {l:List TV} {x:s.ty} (h:s.jE l=some x) (hc:l.all HO=true):s.cV x=l:=by
 unfold Sh.jE at h;split at h
 .rename_i y heq
  cases h;have:=Sp heq hc
  grind
 .cases h
theorem eW:∀ (vs bs:List Value) (o k:Nat),(k<o\/o+vs.length<=k)->(aA bs o vs)[k]? =bs[k]? :=by
 intro vs
 induction vs with
 |nil=>intro bs o k _;rfl
 |cons v vs ih=>
  intro bs o k h;simp only [aA]
  grind
theorem Bp:∀ (vs bs:List TV) (o k:Nat),(k<o\/o+vs.length<=k)->(dO bs o vs)[k]? =bs[k]? :=by
 intro vs
 induction vs with
 |nil=>intro bs o k _;rfl
 |cons v vs ih=>
  intro bs o k h;simp only [dO]
  grind
theorem CH:∀ (vs bs:List TV) (o k:Nat) (t:TV),(k<o\/o+vs.length<=k)->(dO bs o vs).set k t=dO (bs.set k t) o vs:=by
 intro vs
 induction vs with
 |nil=>intro bs o k t _;rfl
 |cons v vs ih=>
  intro bs o k t h;simp only [dO];simp only [zad] at h;rw [ih _ (o+1) k t (by omega),List.set_comm _ _ (by omega)]
theorem br.plain:∀ {l:List TV} {vs:List Value},l.all vR=true->br Γ Pu I l vs->br Γ' Pu1 I' l vs:=by
 intro l vs h;refine br.flat ?_;rw [List.all_eq_true] at h ⊢;intro t ht;have:=h t ht;cases t<;>first |rfl |cases this
theorem EK (hs:au P hint sh Γ Pu H I) {t:TypeId} {id i off no:Nat} {inf:TypeInfo} {ts:List TV} {a' x':Value} (h:yH dS H id i off ts K=some r) (hpl:ts.all vR=true) (hi:P.info? t=some inf) (hsz:x'.cells.size=inf.size) (ha:GR Γ Pu I (.iO id i off) a') (hx:br Γ Pu I ts x'.cells.toList):Good P hint sh K r Γ Pu H I (an (bK P I t a' x')):=by
 unfold yH at h;cases ha with |iO hl hp=>
 rename_i b o l;split at h
 .rename_i et e no net ne xs em hg
  obtain ⟨x,hxi,h⟩:=ef h;replace h:=ad h;obtain ⟨hc,h⟩:=h;replace hc:=ae hc;obtain ⟨hc,hc3⟩:=hc;replace hc:=ae hc;obtain ⟨hc1,hc2⟩:=hc;have hle:=aF hc2;have hfar:no<off\/off+ts.length<=no:=by
   rw [Bool.or_eq_true] at hc1;rcases hc1 with h1 |h1
   .simp_all
   .simp_all
  split at h
  .rename_i y hy
   have hty:=JE hy (Cf (Qd x) hpl);obtain ⟨l1,hl1,hN⟩:=hs.obj id _ hg;cases hl.symm.trans hl1;have hN':bo Γ Pu I l et e no net ne xs em none:=hN;obtain ⟨h1,h2,h3,h4,h5 |⟨b0,o0,vs,f,ex,hp0,he,hgb,ht,hlen,hro,hf,hE,hy2,hh,hd,hself⟩⟩:=hN'
   .grind
   cases hp.symm.trans hp0;obtain ⟨hnlt,hok⟩:=fJ h4;have hil:i<xs.length:=(List.getElem?_eq_some_iff.1 hxi).1;have hrow:o+i*e.sz+e.sz<=vs.length:=by
    have:(i+1)*e.sz<=xs.length*e.sz:=Nat.mul_le_mul_right _ hil;rw [zaj,Nat.one_mul] at this;omega
   have hvl:=hx.length;have hone:x'.cells.toList.all Iv.one=true:=hx.zn (by
    rw [List.all_eq_true] at hpl ⊢;intro t ht;have:=hpl t ht;cases t<;>first |rfl |cases this)
   have hne:x'.cells.toList≠ []:=by
    intro hc;rw [hc] at hvl;rw [List.eq_nil_of_length_eq_zero hvl.symm] at hc3;cases hc3
   have hst:=iJ (off:=o+i*l.sz+off) (vs:=x'.cells.toList) hgb hro (by omega) (by rw [h2];omega) hone hne;simp only [bK,nr,hi,if_pos hsz,hst,an];rw [h2];generalize x'.cells.toList=ws at*;have hfarW:∀ j,(o+j*e.sz+no<o+i*e.sz+off\/o+i*e.sz+off+ws.length<=o+j*e.sz+no):=by
    intro j;rw [hvl];rcases Nat.lt_trichotomy j i with h |h |h
    .have:(j+1)*e.sz<=i*e.sz:=Nat.mul_le_mul_right _ h
     grind
    .subst h;omega
    .have:(i+1)*e.sz<=j*e.sz:=Nat.mul_le_mul_right _ h
     grind
   have cell:∀ j,(aA vs (o+i*e.sz+off) ws)[o+j*e.sz+no]? =vs[o+j*e.sz+no]? :=fun j=>eW _ _ _ _ (hfarW j)
   have hnp:¬ Pu b:=hs.sep b (.pos hg rfl hl hp);have hgI:∀ b',b'≠b->(I.put b (.cells (aA vs (o+i*e.sz+off) ws) et f ex false)).get b'=I.get b':=fun b' hb'=>by rw [IH.ag,if_neg hb']
   have k:cp Γ Pu I Γ Pu (I.put b (.cells (aA vs (o+i*e.sz+off) ws) et f ex false)):=⟨fun _ _ h=>h,fun _ h=>h,fun b' hb'=>hgI b' (by grind)⟩;have nb:∀ b' j,NB (I.put b (.cells (aA vs (o+i*e.sz+off) ws) et f ex false)) l e.sz no none b' j->NB I l e.sz no none b' j:=by
    rintro b' j ⟨n0,n2,b2,o2,vs2,et2,f2,ex2,sd2,hp2,hg2,hv2⟩;cases hp.symm.trans hp2;rw [IH.ag,if_pos rfl] at hg2;cases hg2;rw [cell] at hv2;exact ⟨n0,n2,b,o,vs,et,f,ex,false,hp,hgb,hv2⟩
   have hng:aL e no ne y=aL e no ne x:=by
    have a1:=(hok y).1;rw [hty,Bp _ _ _ _ hfar,(hok x).1] at a1;have a2:=Option.some.inj a1;injection a2 with _ a3
    exact a3.symm
   have hor:OR P hint Γ Pu (I.put b (.cells (aA vs (o+i*e.sz+off) ws) et f ex false)) l (.nest et e no net ne (xs.set i y) em none):=by
    refine ⟨by rw [h1];simp,h2,h3,h4,.inr ⟨b,o,_,f,ex,hp,fun hem hc=>he hem (by simp_all),by rw [IH.ag,if_pos rfl],by rw [aM];exact ht,by rw [aM,List.length_set];exact hlen,hro,hf,?_,?_,(fun _ _ _ h=>by cases h),fun j k b' n1 n2=>hd j k b' (nb b' j n1) (nb b' k n2),fun j n1=>hself j (nb b j n1)⟩⟩
    .intro j z hz
     by_cases hij:j=i
     .subst hij
      rw [List.getElem?_set_self hil] at hz;cases hz;rw [rY,sq,hty,CH _ _ _ _ _ hfar];exact (br.plain hpl hx).aA ((hE j x hxi).mono k) off
     .rw [List.getElem?_set_ne (Ne.symm hij)] at hz
      rw [j9]
      .exact (hE j z hz).mono k
      .rcases Nat.lt_or_gt_of_ne hij with hlt |ql
       .left
        have:(j+1)*e.sz<=i*e.sz:=Nat.mul_le_mul_right _ hlt
        grind
       .right
        have:(i+1)*e.sz<=j*e.sz:=Nat.mul_le_mul_right _ ql
        grind
    .intro j z w hz _ hw
     rw [cell] at hw;have hz2:∃ z0,xs[j]? =some z0/\aL e no ne z=aL e no ne z0:=by
      by_cases hij:j=i
      .grind
      .grind
     obtain ⟨z0,hz0,hze⟩:=hz2;obtain ⟨l',a1,a2⟩:=hy2 j z0 w hz0 (by simp) hw;rw [hze];refine ⟨l',a1.mono k.p k.i fun b' y' hp'=>hgI b' ?_,a2⟩;rintro rfl;exact hself j ⟨by simp,by grind,b',o,vs,et,f,ex,false,hp,hgb,by rw [hw];exact mO a2 hp'⟩
   obtain ⟨s2,e2⟩:=hs.gS hg rfl hl hp (.nest et e no net ne (xs.set i y) em none) (.cells (aA vs (o+i*e.sz+off) ws) et f ex false) hor
    (fun b' hb'=>by
     obtain ⟨j,hj⟩:=hb';have hat:At I l (.nest et e no net ne xs em none) b':= .inr ⟨j,nb b' j hj⟩;exact ⟨⟨id,_,l,hg,rfl,hl,hat⟩,fun id2 o2 l2 hne2 hg2 hm2 hl2 hat2=>hne2 (hs.inj id2 id o2 _ l2 l b' hg2 hg hm2 rfl hl2 hl hat2 hat)⟩)
   exact ⟨_,_,_,_,_,_,h,rfl,.undef _,s2,e2⟩
  .cases h
 .cases h
theorem EB (hs:au P hint sh Γ Pu H I) {t:TypeId} {a x:TV} {a' x':Value} (h:AI dS P H t a x K=some r) (ha:GR Γ Pu I a a') (hx:GR Γ Pu I x x'):Good P hint sh K r Γ Pu H I (an (bK P I t a' x')):=by
 unfold AI at h;split at h
 .rename_i id i off
  split at h
  .rename_i no hno
   split at h
   .rename_i inf hi
    replace h:=ad h;obtain ⟨hc,h⟩:=h;replace hc:=ae hc;obtain ⟨hc1,hc2⟩:=hc;have hl:=beq_true hc1;cases hb:(Nat.beq off no &&Nat.beq x.cells.length 1) with
    |true=>
     rw [hb] at h;simp only [zac] at h;replace hb:=ae hb;obtain ⟨hb1,hb2⟩:=hb;have:=beq_true hb1;subst this;split at h
     .exact NP hs h hno hi (by rw [←hl];rfl) ha hx
     .cases h
    |false=>
     rw [hb] at h;simp only [zab] at h;replace h:=ad h;obtain ⟨hpl,h⟩:=h;obtain ⟨s1,e1⟩:=jP hs id;have hc:=hx.cells hc2;have hsz:x'.cells.size=inf.size:=by rw [←Array.length_toList,hc.length,hl]
     exact (EK (no:=no) s1 h hpl hi hsz ha hc).after hs s1 e1
   .cases h
  .exact xx hs h ha hx
 .exact xx hs h ha hx
end
end Go.Gv
/- Lists whose elements hold lists: new ones. -/
namespace Go.Gv
open Go Go.Iv
section
variable {Z:Type} {P:Program} {hint:Hint} {sh:bU} {Γ Γ1 Γ':aN} {Pu Pu1:Nat->Prop} {H H1:GH} {I I1 I':IH} {K:TV->GH->Option Z} {r:Z}
theorem No (hs:au P hint sh Γ Pu H I) {e net:TypeId} {s ne:Sh} {no:Nat} {xs:List s.ty} {cs:List Value} (hok:JA s no ne=true) (hlen:cs.length=xs.length*s.sz) (hrow:Row Pu I s xs cs 0)
  (hnil:∀ i x,xs[i]? =some x->aL s no ne x= []/\cs[i*s.sz+no]? =some (.slice none 0 0)) (cap:Nat) (hcap:je cap s.sz xs.length 0 cs.length):
  au P hint sh (Γ.up H.n ⟨some (I.n,0),xs.length,s.sz,cs.length⟩) Pu (H.new (.nest e s no net ne xs .no none)) (I.new (.cells cs e 0 true false))/\
   Ex (bk Γ H I) Γ Pu H I (Γ.up H.n ⟨some (I.n,0),xs.length,s.sz,cs.length⟩) Pu (H.new (.nest e s no net ne xs .no none)) (I.new (.cells cs e 0 true false))/\
   GR (Γ.up H.n ⟨some (I.n,0),xs.length,s.sz,cs.length⟩) Pu (I.new (.cells cs e 0 true false)) (.all H.n) (.slice (some ⟨I.n,0,none⟩) xs.length cap):=by
 have hk:=jR hs ⟨some (I.n,0),xs.length,s.sz,cs.length⟩ (.cells cs e 0 true false);have hnb:∀ b i,¬ NB (I.new (.cells cs e 0 true false)) ⟨some (I.n,0),xs.length,s.sz,cs.length⟩ s.sz no none b i:=by
  rintro b i ⟨_,n2,b2,o2,vs2,et2,f2,ex2,sd2,hp2,hg2,hv2⟩;cases hp2;rw [IH.ay,if_pos rfl] at hg2;cases hg2;rw [Nat.zero_add,(hnil i _ (zam n2)).2] at hv2;cases hv2
 obtain ⟨s1,e1⟩:=hs.new (.nest e s no net ne xs .no none) (.cells cs e 0 true false) ⟨some (I.n,0),xs.length,s.sz,cs.length⟩ 0 rfl
  ⟨rfl,rfl,s.gG,hok,.inr ⟨I.n,0,cs,0,true,rfl,(fun h=>by cases h),by rw [IH.ay,if_pos rfl],rfl,by omega,hs.ro,zal _,
   fun i x hi=>by
    have h1:=(hrow i x hi).cV (Γ:=Γ);have h2:=h1.set no (GR.undef (Γ:=Γ) (Pu:=Pu) (I:=I) ((cs.drop (0+i*s.sz)).take s.sz)[no]!);have:((cs.drop (0+i*s.sz)).take s.sz).set no ((cs.drop (0+i*s.sz)).take s.sz)[no]! =(cs.drop (0+i*s.sz)).take s.sz:=by
     have hl:=h1.length;rw [px] at hl;have hlt:=(fJ hok).1;apply jC;rw [zam (by omega),getElem!_pos _ _ (by omega)]
    rw [this] at h2;exact h2.mono hk,
   fun i x v hi _ hv=>by
    obtain ⟨a1,a2⟩:=hnil i x hi;rw [Nat.zero_add,a2] at hv;cases hv;exact ⟨⟨none,0,ne.sz,0⟩,⟨by rw [a1];rfl,rfl,ne.gG,.inl ⟨rfl,a1,by simp⟩⟩,rfl,rfl⟩,
   (fun _ _ _ h=>by cases h),fun i j b n1 _=>absurd n1 (hnb b i),fun i n1=>hnb _ i n1⟩⟩
  (fun b ⟨i,hi⟩=>hnb b i hi)
 refine ⟨s1,e1,.all (l:=⟨some (I.n,0),xs.length,s.sz,cs.length⟩) (by simp [aN.up]) ?_⟩;exact ⟨cap,by simp,by simpa using hcap⟩
theorem JL {l:List TV} {vs:List Value} {i:Nat} (h:DT l[i]? =true) (hr:br Γ Pu I l vs):vs[i]? =some (.slice none 0 0):=by
 unfold DT at h;split at h
 .rename_i heq
  obtain ⟨v,h1,h2⟩:=hr.get heq;rw [h1,SI h2]
 .cases h
theorem Jf {no sz:Nat}:∀ {n:Nat} {l:List TV} {vs:List Value},zJ no sz n l=true->br Γ Pu I l vs->∀ i,i<n->vs[i*sz+no]? =some (.slice none 0 0):=by
 intro n
 induction n with
 |zero=>omega
 |succ n ih=>
  intro l vs h hr i hi;unfold zJ at h;replace h:=ae h;cases i with
  |zero=>rw [Nat.zero_mul,Nat.zero_add];exact JL h.1 hr
  |succ i=>
   have:=ih h.2 (hr.drop sz) i (by omega)
   grind
theorem uL (hs:au P hint sh Γ Pu H I) {t:TypeId} {eq:Bool} {l c:TV} {l' c':Value} (h:rP dS P sh H t eq l c K=some r) (hl:GR Γ Pu I l l') (hc:GR Γ Pu I c c') (heq:eq=true->l=c):Good P hint sh K r Γ Pu H I (an (cB P I t l' c')):=wc hs h hl hc heq
theorem sS (hs:au P hint sh Γ Pu H I) {t:TypeId} {len:Nat} {ps:List (Nat×TV)} {ps':List (Nat×Value)} (h:kO P sh H t len ps K=some r) (hp:D7 Γ Pu I ps ps'):Good P hint sh K r Γ Pu H I (an (aZ P I t len ps')):=by
 unfold kO at h;split at h
 .exact lg hs h hp
 .rename_i no net _
  split at h
  .rename_i e i he
   by_cases hz:(Nat.beq len 0 &&(GU sh.tF (e+1000000)).isSome ||Q2 no ps)=true
   .rw [hz,zac] at h
    exact lg hs h hp
   rw [eq_false_of_ne_true hz,zab] at h;replace h:=ad h;obtain ⟨hb,h⟩:=h;replace hb:=ae hb;obtain ⟨hb1,hb2⟩:=hb;split at h
   .rename_i z s ne hz hsh hne
    replace h:=ad h;obtain ⟨hc,h⟩:=h;replace hc:=ae hc;obtain ⟨hc,hok⟩:=hc;replace hc:=ae hc;obtain ⟨hc,hc3⟩:=hc;replace hc:=ae hc;obtain ⟨hc1,hc2⟩:=hc;have k1:=beq_true hc1;have k3:=beq_true hc3;split at h
    .rename_i cells hf
     obtain ⟨vs',hf',hr'⟩:=jQ (vs:=⟨eY z.cells.toList len⟩) hf hb2 hp (tf (eB hc2) len);split at h
     .rename_i cells' H1 hpl
      obtain ⟨Pu1,s1,e1,r1⟩:=iu hs hpl hr';split at h
      .rename_i xs hx
       replace h:=ad h;obtain ⟨hn,h⟩:=h;replace hn:=ae hn;obtain ⟨hn1,hn2⟩:=hn;obtain ⟨a1,a2,a3⟩:=qA hx r1;have hsz:=s.gG;have a2':vs'.toList.length=xs.length*s.sz:=by rw [a1];exact a2
       have hlu:len<ff:=by
        have:=aF hb1;have h2:len<=len*(i.size+1):=Nat.le_mul_of_pos_right _ (by omega);unfold ff;have:(2:Nat)^24<2^64:=by decide
        omega
       obtain ⟨s2,e2,r2⟩:=No s1 (e:=e) (net:=net) (xs:=xs) (cs:=vs'.toList) hok a2' a3
        (fun j x hj=>by
         refine ⟨List.isEmpty_iff.1 ?_,Jf hn2 r1 j (by rw [←a1];exact (List.getElem?_eq_some_iff.1 hj).1)⟩
         grind)
        len (.inr ⟨hlu,by omega,by rw [a2];omega⟩)
       have:aZ P I t len ps'=some (.val (.slice (some ⟨I.n,0,none⟩) len len) (bO I e vs'.toList)):=by
        simp only [aZ,he,hz];rw [if_pos (by simp [hp.ok hb2];simp_all),if_pos k1,hf']
       rw [this];rw [a1] at r2 s2 e2;simp only [an];exact ⟨_,_,_,_,_,_,h,rfl,r2,s2,Ex.trans hs s1 e1 e2⟩
      .cases h
     .cases h
    .cases h
   .cases h
  .cases h
end
end Go.Gv
/- Lists whose elements hold lists: elements without lists are appended. -/
namespace Go.Gv
open Go Go.Iv
section
variable {Z:Type} {P:Program} {hint:Hint} {sh:bU} {Γ Γ1 Γ':aN} {Pu Pu1:Nat->Prop} {H H1:GH} {I I1 I':IH} {K:TV->GH->Option Z} {r:Z}
theorem tN:∀ (bs:List Value) (o:Nat) (vs:List Value),(aA bs o vs).length=bs.length:=by
 intro bs o vs
 induction vs generalizing bs o with
 |nil=>rfl
 |cons v r ih=>show (aA (bs.set o v) (o+1) r).length=_;grind
theorem JR:∀ (vs bs:List Value) (o k:Nat),k<vs.length->o+vs.length<=bs.length->(aA bs o vs)[o+k]? =vs[k]? :=by
 intro vs
 induction vs with
 |nil=>grind
 |cons v r ih=>
  intro bs o k h hl;simp only [zad] at h hl
  show (aA (bs.set o v) (o+1) r)[o+k]? =_
  cases k with
  |zero=>
   rw [eW r _ _ _ (.inl (by omega)),Nat.add_zero,List.getElem?_set_self (by omega)];rfl
  |succ k=>
   rw [show o+(k+1)=o+1+k by omega,ih (bs.set o v) (o+1) k (by omega) (by simp;omega)];rfl
theorem HD {e:TypeId} {b off len cap n size bytes f:Nat} {ex:Bool} {vs cs:List Value} (hg:I.get b=some (.cells vs e f ex false)) (hro:ep<=b) (hf:f<=off) (hle:off+len*size<=vs.length) (hcap:je cap size len off vs.length) (hn:n≠0) (hcs:cs.length=n*size) (hsz:0<size)
  (hones:cs.all Iv.one=true) (hroom:(len+n)*(bytes+1)<=roomy) (hfr:∀ b,I.n<=b->I.get b=none):
  ∃ B o' io f' ex' cap' I',fY I e size bytes n cs (.slice (some ⟨b,off,none⟩) len cap)=some (.val (.slice (some ⟨B,o',none⟩) (len+n) cap') I')/\I'.get B=some (.cells io e f' ex' false)/\(io.drop o').take ((len+n)*size)=(vs.drop off).take (len*size)++cs/\f'<=o'/\o'+(len+n)*size<=io.length/\
   je cap' size (len+n) o' io.length/\(B=b\/B=I.n)/\(∀ k,k<I.n->k≠b->I'.get k=I.get k)/\I.n<=I'.n/\∀ k,I'.n<=k->I'.get k=none:=by
 have hbn:b<I.n:=Nat.lt_of_not_le fun h=>by grind
 have hold:((vs.drop off).take (len*size)).length=len*size:=by simp;omega
 have hmul:(len+n)*size=len*size+n*size:=Nat.add_mul ..;have hcsne:cs.isEmpty=false:=by
  cases cs with
  |nil=>simp at hcs;have:0<n*size:=Nat.mul_pos (by omega) hsz;omega
  |cons=>rfl
 simp only [fY,if_neg hn,cJ,if_pos hroom];rcases hcap with hc |⟨hc1,hc2,hc3⟩
 .subst hc
  rw [if_pos (Nat.le_add_right _ _)];simp only [hg];rw [if_pos (by grind)];refine ⟨I.n,0,(vs.drop off).take (len*size)++cs,f - off,false,ff+size,_,rfl,?_,?_,by omega,?_,.inl rfl,.inr rfl,fun k hk hkb=>?_,Nat.le_succ _,fun k hk=>?_⟩
  .rw [IH.ay];simp_all
  .grind
  .grind
  .rw [IH.ay,if_neg (by show ¬ k=I.n;omega),IH.cf,if_neg hkb]
  .have hk':I.n+1<=k:=hk
   rw [IH.ay,if_neg (by show ¬ k=I.n;omega),IH.cf]
   grind
 .rw [if_neg (by omega)]
  by_cases hfit:len+n<=cap
  .rw [if_pos hfit]
   have hb2:(len+n)*size<=cap*size:=Nat.mul_le_mul_right _ hfit;have hst:I.eJ b (off+len*size) cs=some (I.put b (.cells (aA vs (off+len*size) cs) e f ex false)):=by
    unfold IH.eJ;rw [if_neg (by grind)];simp only [hg];rw [if_pos (by simp only [zae,decide_eq_true_eq];grind)]
   rw [hst];have hsl:(aA vs (off+len*size) cs).length=vs.length:=tN ..;refine ⟨b,off,aA vs (off+len*size) cs,f,ex,cap,_,rfl,?_,?_,hf,?_,.inr ⟨hc1,hfit,by omega⟩,.inl rfl,fun k hk hkb=>?_,zal _,fun k hk=>?_⟩
   .rw [IH.ag];grind
   .apply List.ext_getElem?
    intro k;rw [List.getElem?_take];split
    .rename_i hk
     rw [List.getElem?_drop];by_cases hk2:k<len*size
     .rw [eW cs vs _ _ (.inl (by omega)),List.getElem?_append_left (by omega),List.getElem?_take,if_pos hk2,List.getElem?_drop]
     .rw [List.getElem?_append_right (by omega),hold]
      have:=JR cs vs (off+len*size) (k - len*size) (by omega) (by omega);rw [show off+len*size+(k - len*size)=off+k by omega] at this;exact this
    grind
   .omega
   .rw [IH.ag,if_neg hkb]
   .rw [IH.ag,if_neg (by have:I.n<=k:=hk;omega)];simp_all
  .rw [if_neg hfit]
   have hcells:(if len=0 then some [] else I.bf b off (len*size))=some ((vs.drop off).take (len*size)):=by
    by_cases h0:len=0
    .simp_all
    .rw [if_neg h0]
     unfold IH.bf
     grind
   rw [hcells];refine ⟨I.n,0,(vs.drop off).take (len*size)++cs,0,false,ff+size,_,rfl,?_,?_,zal _,?_,.inl rfl,.inr rfl,fun k hk hkb=>?_,Nat.le_succ _,fun k hk=>?_⟩
   .rw [IH.ay];grind
   .grind
   .grind
   .rw [IH.ay,if_neg (by omega)]
   .have hk':I.n+1<=k:=hk
    rw [IH.ay,if_neg (by omega)]
    grind
theorem yn {io vs cs:List Value} {o o' L:Nat} {k:Nat} {n:Nat} (h:(io.drop o').take n=(vs.drop o).take L++cs) (hL:o+L<=vs.length) (hn:k<n):
  io[o'+k]? =if k<L then vs[o+k]? else cs[k - L]? :=by
 have h1:((io.drop o').take n)[k]? =io[o'+k]? :=by rw [List.getElem?_take,if_pos hn,List.getElem?_drop]
 grind
theorem Nw {io vs:List Value} {a b n:Nat} (h:∀ j,j<n->io[a+j]? =vs[b+j]?):(io.drop a).take n=(vs.drop b).take n:=by
 apply List.ext_getElem?
 grind
theorem bo.app {l l':Loc} {et:TypeId} {e:Sh} {no:Nat} {net:TypeId} {ne:Sh} {xs ys:List e.ty} {em:Em} (h:bo Γ Pu I l et e no net ne xs em none) {b o f0:Nat} {et0:TypeId} {ex0 sd0:Bool} {vs cs:List Value} (hp:l.pos=some (b,o)) (hg:I.get b=some (.cells vs et0 f0 ex0 sd0))
  (hy:Row Pu I e ys cs 0) (hyl:cs.length=ys.length*e.sz) (hyn:∀ y∈ys,aL e no ne y= []) (hnil:∀ i,i<ys.length->cs[i*e.sz+no]? =some (.slice none 0 0)) (hne:ys≠ []) (hnesz:0<ne.sz)
  {B o' f':Nat} {ex':Bool} {io:List Value} (hpos:l'.pos=some (B,o')) (hgB:I'.get B=some (.cells io et f' ex' false)) (htot:io.length=l'.tot) (hlen':l'.len=xs.length+ys.length) (hsz':l'.sz=e.sz) (hle:o'+(xs.length+ys.length)*e.sz<=io.length) (hro:ep<=B) (hf:f'<=o')
  (hrow:(io.drop o').take ((xs.length+ys.length)*e.sz)=(vs.drop o).take (xs.length*e.sz)++cs) (hI:∀ c i,NB I l e.sz no none c i->I'.get c=I.get c) (hBn:∀ c i,NB I l e.sz no none c i->c≠B) (hk:cp Γ Pu I Γ' Pu I'):
  bo Γ' Pu I' l' et e no net ne (xs++ys) em none/\∀ c i,NB I' l' e.sz no none c i->NB I l e.sz no none c i:=by
 obtain ⟨h1,h2,h3,h4,h5 |⟨b1,o1,vs1,f1,ex1,hp1,he,hg1,ht,hle1,hro1,hf1,hx,hin,hh,hd,hself⟩⟩:=h
 .grind
 .cases hp.symm.trans hp1
  cases hg.symm.trans hg1;have k1:=(fJ h4).1;have mulx:∀ i,i<xs.length->i*e.sz+e.sz<=xs.length*e.sz:=fun i hi=>by
   have:(i+1)*e.sz<=xs.length*e.sz:=Nat.mul_le_mul_right _ hi
   grind
  have muly:∀ i,i<ys.length->i*e.sz+e.sz<=ys.length*e.sz:=fun i hi=>by
   have:(i+1)*e.sz<=ys.length*e.sz:=Nat.mul_le_mul_right _ hi
   grind
  have hadd:(xs.length+ys.length)*e.sz=xs.length*e.sz+ys.length*e.sz:=Nat.add_mul ..;have ats:∀ i j,i<xs.length->j<e.sz->io[o'+i*e.sz+j]? =vs[o+i*e.sz+j]? :=fun i j hi hj=>by
   have:=mulx i hi;rw [show o'+i*e.sz+j=o'+(i*e.sz+j) by omega,yn hrow hle1 (by omega),if_pos (by omega),Nat.add_assoc]
  have aty:∀ i j,i<ys.length->j<e.sz->io[o'+(xs.length+i)*e.sz+j]? =cs[i*e.sz+j]? :=fun i j hi hj=>by
   have:=muly i hi;have h7:(xs.length+i)*e.sz=xs.length*e.sz+i*e.sz:=Nat.add_mul ..;rw [show o'+(xs.length+i)*e.sz+j=o'+(xs.length*e.sz+i*e.sz+j) by omega,yn hrow hle1 (by omega),if_neg (by omega)]
   grind
  have nb:∀ c i,NB I' l' e.sz no none c i->NB I l e.sz no none c i:=by
   rintro c i ⟨q1,q2,b0,o0,vs0,et1,f2,ex2,sd2,q3,q4,q5⟩;cases hpos.symm.trans q3;cases hgB.symm.trans q4;by_cases hi:i<xs.length
   .rw [ats i no hi k1] at q5
    exact ⟨q1,by omega,_,_,_,_,_,_,_,hp,hg,q5⟩
   .have hi2:i - xs.length<ys.length:=by omega
    have:=aty (i - xs.length) no hi2 k1;rw [show xs.length+(i - xs.length)=i by omega,hnil _ hi2] at this;rw [this] at q5;cases q5
  refine ⟨⟨by rw [hlen',zaf],hsz',h3,h4,.inr ⟨B,o',io,f',ex',hpos,fun _ h=>hne (List.append_eq_nil_iff.1 h).2,hgB,htot,by rw [zaf];exact hle,hro,hf,fun i x hi=>?_,fun i x v hi _ hv=>?_,(fun i n x h=>by cases h),fun i j c hi hj=>hd i j c (nb c i hi) (nb c j hj),fun i hi=>hBn B i (nb B i hi) rfl⟩⟩,nb⟩
  .by_cases hi2:i<xs.length
   .rw [List.getElem?_append_left hi2] at hi
    rw [Nw (vs:=vs) (b:=o+i*e.sz) fun j hj=>ats i j hi2 hj];exact (hx i x hi).mono hk
   .rw [List.getElem?_append_right (by omega)] at hi
    have hi3:i - xs.length<ys.length:=(List.getElem?_eq_some_iff.1 hi).1;have hen:=hy (i - xs.length) x hi;rw [Nat.zero_add] at hen;have hcut:(io.drop (o'+i*e.sz)).take e.sz=(cs.drop ((i - xs.length)*e.sz)).take e.sz:=Nw fun j hj=>by
     have:=aty (i - xs.length) j hi3 hj
     rwa [show xs.length+(i - xs.length)=i by omega] at this
    rw [hcut];have hen2:=(hen.mono hk.p hk.i).cV (Γ:=Γ');have hrl:=hen.len;have hv:((cs.drop ((i - xs.length)*e.sz)).take e.sz)[no]? =some ((cs.drop ((i - xs.length)*e.sz)).take e.sz)[no]:=zam (by omega);have:=hen2.set no (.undef ((cs.drop ((i - xs.length)*e.sz)).take e.sz)[no]);rw [jC hv] at this;exact this
  .by_cases hi2:i<xs.length
   .rw [List.getElem?_append_left hi2] at hi
    rw [ats i no hi2 k1] at hv;obtain ⟨l2,a1,a2⟩:=hin i x v hi (by simp) hv;refine ⟨l2,a1.mono (fun _ h=>h) hk.i fun c x' hp'=>hI c i ⟨by simp,by omega,_,_,_,_,_,_,_,hp,hg,?_⟩,a2⟩;unfold fF at a2;rw [hp'] at a2;obtain ⟨cap,rfl,_⟩:=a2;rw [hv];rfl
   .rw [List.getElem?_append_right (by omega)] at hi
    have hi3:i - xs.length<ys.length:=(List.getElem?_eq_some_iff.1 hi).1;have:=aty (i - xs.length) no hi3 k1;rw [show xs.length+(i - xs.length)=i by omega,hnil _ hi3,hv] at this;cases this;have hnl:=hyn x (List.mem_of_getElem? hi);exact ⟨⟨none,0,ne.sz,0⟩,⟨by rw [hnl];rfl,rfl,hnesz,.inl ⟨rfl,hnl,by simp⟩⟩,⟨rfl,rfl⟩⟩
theorem xb (hs:au P hint sh Γ Pu H I) {e net:TypeId} {s ne:Sh} {no:Nat} {xs:List s.ty} {cs:List Value} {em:Em} (hok:JA s no ne=true) (hlen:cs.length=xs.length*s.sz) (hrow:Row Pu I s xs cs 0)
  (hnil:∀ i x,xs[i]? =some x->aL s no ne x= []/\cs[i*s.sz+no]? =some (.slice none 0 0)) (cap:Nat) (hcap:je cap s.sz xs.length 0 cs.length) (hem:em= .ex->xs≠ []):
  au P hint sh (Γ.up H.n ⟨some (I.n,0),xs.length,s.sz,cs.length⟩) Pu (H.new (.nest e s no net ne xs em none)) (I.new (.cells cs e 0 false false))/\
   Ex (bk Γ H I) Γ Pu H I (Γ.up H.n ⟨some (I.n,0),xs.length,s.sz,cs.length⟩) Pu (H.new (.nest e s no net ne xs em none)) (I.new (.cells cs e 0 false false))/\
   GR (Γ.up H.n ⟨some (I.n,0),xs.length,s.sz,cs.length⟩) Pu (I.new (.cells cs e 0 false false)) (.all H.n) (.slice (some ⟨I.n,0,none⟩) xs.length cap):=by
 have hk:=jR hs ⟨some (I.n,0),xs.length,s.sz,cs.length⟩ (.cells cs e 0 false false);have hnb:∀ b i,¬ NB (I.new (.cells cs e 0 false false)) ⟨some (I.n,0),xs.length,s.sz,cs.length⟩ s.sz no none b i:=by
  rintro b i ⟨_,n2,b2,o2,vs2,et2,f2,ex2,sd2,hp2,hg2,hv2⟩;cases hp2;rw [IH.ay,if_pos rfl] at hg2;cases hg2;rw [Nat.zero_add,(hnil i _ (zam n2)).2] at hv2;cases hv2
 obtain ⟨s1,e1⟩:=hs.new (.nest e s no net ne xs em none) (.cells cs e 0 false false) ⟨some (I.n,0),xs.length,s.sz,cs.length⟩ 0 rfl
  ⟨rfl,rfl,s.gG,hok,.inr ⟨I.n,0,cs,0,false,rfl,hem,by rw [IH.ay,if_pos rfl],rfl,by omega,hs.ro,zal _,
   fun i x hi=>by
    have h1:=(hrow i x hi).cV (Γ:=Γ);have h2:=h1.set no (GR.undef (Γ:=Γ) (Pu:=Pu) (I:=I) ((cs.drop (0+i*s.sz)).take s.sz)[no]!);have:((cs.drop (0+i*s.sz)).take s.sz).set no ((cs.drop (0+i*s.sz)).take s.sz)[no]! =(cs.drop (0+i*s.sz)).take s.sz:=by
     have hl:=h1.length;rw [px] at hl;have hlt:=(fJ hok).1;apply jC;rw [zam (by omega),getElem!_pos _ _ (by omega)]
    rw [this] at h2;exact h2.mono hk,
   fun i x v hi _ hv=>by
    obtain ⟨a1,a2⟩:=hnil i x hi;rw [Nat.zero_add,a2] at hv;cases hv;exact ⟨⟨none,0,ne.sz,0⟩,⟨by rw [a1];rfl,rfl,ne.gG,.inl ⟨rfl,a1,by simp⟩⟩,rfl,rfl⟩,
   (fun _ _ _ h=>by cases h),fun i j b n1 _=>absurd n1 (hnb b i),fun i n1=>hnb _ i n1⟩⟩
  (fun b ⟨i,hi⟩=>hnb b i hi)
 refine ⟨s1,e1,.all (l:=⟨some (I.n,0),xs.length,s.sz,cs.length⟩) (by simp [aN.up]) ?_⟩;exact ⟨cap,by simp,by simpa using hcap⟩
theorem bo.row {l:Loc} {et:TypeId} {e:Sh} {no:Nat} {net:TypeId} {ne:Sh} {xs:List e.ty} {em:Em} (h:bo Γ Pu I l et e no net ne xs em none) (hx:∀ x∈xs,aL e no ne x= []) (hne:xs≠ []):
  ∃ b o vs f ex,l.pos=some (b,o)/\I.get b=some (.cells vs et f ex false)/\o+xs.length*e.sz<=vs.length/\Row Pu I e xs vs o/\∀ i,i<xs.length->vs[o+i*e.sz+no]? =some (.slice none 0 0):=by
 obtain ⟨h1,h2,h3,h4,h5 |⟨b,o,vs,f,ex,hp,he,hg2,ht,hle,hro,hf,hx1,hy,hh,hd,hself⟩⟩:=h
 .exact absurd h5.2.1 hne
 .obtain ⟨k1,k2⟩:=fJ h4
  have hnil:∀ i,i<xs.length->vs[o+i*e.sz+no]? =some (.slice none 0 0):=fun i hi=>by
   have hxi:xs[i]? =some xs[i]:=zam hi;have:(i+1)*e.sz<=xs.length*e.sz:=Nat.mul_le_mul_right _ hi;rw [zaj] at this;have hv:vs[o+i*e.sz+no]? =some vs[o+i*e.sz+no]:=zam (by omega);obtain ⟨l',a1,a2⟩:=hy i _ _ hxi (by simp) hv;have hz:=hx _ (List.getElem_mem hi);rw [hz] at a1;have hp':=a1.isNil a2 rfl;unfold fF at a2;rw [hp'] at a2;rw [hv,a2.1]
  refine ⟨b,o,vs,f,ex,hp,hg2,hle,fun i x hi=>?_,hnil⟩;have hil:i<xs.length:=(List.getElem?_eq_some_iff.1 hi).1;have hz:=hx x (List.mem_of_getElem? hi);obtain ⟨g1,_,_⟩:=k2 x;rw [hz] at g1;have hk:((vs.drop (o+i*e.sz)).take e.sz)[no]? =some (.slice none 0 0):=by
   rw [List.getElem?_take,if_pos k1,List.getElem?_drop];exact hnil i hil
  have a7:GR Γ Pu I (.aB ne ([]:List ne.ty) none false) (.slice none 0 0):= .aB (.inl ⟨rfl,rfl⟩) (fun c hc=>by cases hc) (fun hc=>by cases hc);have a6:=(hx1 i x hi).set no a7;rw [List.set_set,jC hk] at a6;have b1:(e.cV x).set no (.aB ne [] none false)=e.cV x:=jC g1;rw [b1] at a6;exact Sh.gA (Sh.yr x) a6
theorem Bs (hs:au P hint sh Γ Pu H I) {argTypes:Array TypeId} {s x:TV} {s' x':Value} (h:uc dS P sh H argTypes s x K=some r) (hsr:GR Γ Pu I s s') (hxr:GR Γ Pu I x x'):Good P hint sh K r Γ Pu H I (an (iC P I argTypes s' x')):=by
 unfold uc at h;split at h
 .rename_i id id2
  split at h
  .rename_i et e no net ne xs em et2 e2 no2 net2 ne2 ys em2 hg1 hg2
   split at h
   .rename_i hh h2 _ _
    subst hh;obtain ⟨h2⟩:=h2;subst h2;split at h
    .rename_i t xt a0 a1
     split at h
     .cases h
     .rename_i a2
      split at h
      .rename_i e' i a3
       split at h
       .rename_i z a5
        replace h:=ad h;obtain ⟨hb,h⟩:=h;replace hb:=ae hb;obtain ⟨hb,hb9⟩:=hb;replace hb:=ae hb;obtain ⟨hb,hb8⟩:=hb;replace hb:=ae hb;obtain ⟨hb,hb7⟩:=hb;replace hb:=ae hb;obtain ⟨hb,hb6⟩:=hb;replace hb:=ae hb;obtain ⟨hb,hb5⟩:=hb;replace hb:=ae hb;obtain ⟨hb,hb4⟩:=hb;replace hb:=ae hb;obtain ⟨hb,hb3⟩:=hb;replace hb:=ae hb;obtain ⟨hb1,hb2⟩:=hb;have q1:=aF hb1;have q2:=beq_true hb2;have q3:=beq_true hb3;have q4:=beq_true hb4;have q5:=beq_true hb5;have q6:=beq_true hb6;subst q4 q5;replace h:=aE h;obtain ⟨hr,h⟩:=h;have hroom:=aF hr;have hyn:∀ y∈ys,aL e no ne y= []:=fun y hy=>by
         have:=List.all_eq_true.1 hb8 y hy;exact List.isEmpty_iff.1 this
        have hne:ys≠ []:=fun h0=>by rw [h0] at hb7;cases hb7
        have hid:id≠id2:=fun h0=>by rw [h0,Nat.beq_refl] at hb9;cases hb9
        have hyl:ys.length≠0:=fun h0=>hne (List.eq_nil_of_length_eq_zero h0)
        cases hsr with |all hl1 hv1=>
        rename_i l1;cases hxr with |all hl2 hv2=>
        rename_i l2;obtain ⟨l1',hl1',ho1⟩:=hs.obj id _ hg1;cases hl1.symm.trans hl1';obtain ⟨l2',hl2',ho2⟩:=hs.obj id2 _ hg2;cases hl2.symm.trans hl2';have n1:bo Γ Pu I l1 et e no net ne xs em none:=ho1;have n2:bo Γ Pu I l2 et2 e no net ne ys em2 none:=ho2;obtain ⟨b2,o2,vs2,f2,ex2,hp2,hgb2,hle2,hrow2,hnil2⟩:=n2.row hyn hne;have hsz:e.sz=i.size:=q3;have hx':∃ cap,x'= .slice (some ⟨b2,o2,none⟩) ys.length cap:=by
         rw [n2.1] at hv2;unfold fF at hv2;rw [hp2] at hv2;obtain ⟨cap,rfl,_⟩:=hv2;exact ⟨cap,by simp⟩
        obtain ⟨cap2,rfl⟩:=hx';have hcsl:((vs2.drop o2).take (ys.length*e.sz)).length=ys.length*e.sz:=by simp;omega
        have hsc:bD I i.size ys.length (.slice (some ⟨b2,o2,none⟩) ys.length cap2)=some ((vs2.drop o2).take (ys.length*e.sz)):=by
         simp only [bD,if_neg hyl,IH.bf,hgb2];rw [←hsz,if_pos hle2]
        have hrowc:=hrow2.cut ys.length (zal _);have hones:=hrowc.zn hcsl;rw [lJ a0 a1 (by simpa using a2) a3 rfl a5 hsc q1 q2 (by rw [←hsz];exact hcsl) hones];have hnilc:∀ j,j<ys.length->((vs2.drop o2).take (ys.length*e.sz))[j*e.sz+no]? =some (.slice none 0 0):=fun j hj=>by
         have hk1:=(fJ n1.2.2.2.1).1;have:(j+1)*e.sz<=ys.length*e.sz:=Nat.mul_le_mul_right _ hj;rw [zaj] at this;rw [List.getElem?_take,if_pos (by omega),List.getElem?_drop,←Nat.add_assoc];exact hnil2 j hj
        rw [←hsz];obtain ⟨s1,e1⟩:=hs.drop id;obtain ⟨s2,e2'⟩:=s1.drop id2;by_cases hpos:l1.pos=none
        .-- onto nothing
         have hxs:xs= []:=by
          obtain ⟨_,_,_,_,h5 |⟨b,o,vs,f,ex,hp,_⟩⟩:=n1
          .exact h5.2.1
          .rw [hpos] at hp;cases hp
         subst hxs;have hs':s'= .slice none 0 0:=by
          unfold fF at hv1;rw [hpos] at hv1;exact hv1.1
         subst hs';have hcapz:je (ff+e.sz) e.sz ys.length 0 ((vs2.drop o2).take (ys.length*e.sz)).length:= .inl rfl;obtain ⟨s3,e3,r3⟩:=xb s2 (net:=net) (em:=em) n1.2.2.2.1 hcsl hrowc (fun j y hy=>⟨hyn y (List.mem_of_getElem? hy),hnilc j (List.getElem?_eq_some_iff.1 hy).1⟩) (ff+e.sz) hcapz (fun _=>hne);have hrun:fY I et e.sz i.bytes ys.length ((vs2.drop o2).take (ys.length*e.sz)) (.slice none 0 0)=some (.val (.slice (some ⟨I.n,0,none⟩) ys.length (ff+e.sz)) (I.new (.cells ((vs2.drop o2).take (ys.length*e.sz)) et 0 false false))):=by
          simp only [fY,if_neg hyl,cJ];rw [if_pos (by simpa using hroom)]
         rw [←q6,hrun];exact ⟨_,_,_,_,_,_,h,rfl,r3,s3,Ex.trans hs s1 e1 (Ex.trans s1 s2 e2' e3)⟩
        .obtain ⟨h1,h2,h3,h4,h5 |⟨b,o,vs,f,ex,hp,he,hg,ht,hle,hro,hf,hx1,hy,hh,hd,hself⟩⟩:=n1
         .exact absurd h5.1 hpos
         .have hs':∃ cap,s'= .slice (some ⟨b,o,none⟩) xs.length cap/\je cap e.sz xs.length o vs.length:=by
           rw [h1] at hv1;unfold fF at hv1;rw [hp] at hv1;obtain ⟨cap,rfl,hc⟩:=hv1;rw [h2,←ht] at hc;simp only [Nat.zero_mul,Nat.add_zero] at hc ⊢;exact ⟨cap,rfl,hc⟩
          obtain ⟨cap,rfl,hcap⟩:=hs';obtain ⟨B,o',io,f',ex',cap',I',w1,w2,w3,w4,w5,w6,w7,w8,w9,w10⟩:=HD (cs:=(vs2.drop o2).take (ys.length*e.sz)) hg hro hf hle hcap hyl hcsl e.gG hones (bytes:=i.bytes) hroom hs.fresh;rw [←q6,w1];have hblt:=hs.bJ (.pos hg1 rfl hl1 hp);have hgam:Γ.up H.n ⟨some (B,o'),xs.length+ys.length,e.sz,io.length⟩ H.n=some ⟨some (B,o'),xs.length+ys.length,e.sz,io.length⟩:=by simp [aN.up]
          have hnbo:∀ c j,NB I l1 e.sz no none c j->bk Γ H I c:=fun c j hn=>⟨id,_,l1,hg1,rfl,hl1,.inr ⟨j,hn⟩⟩
          have hnbne:∀ c j,NB I l1 e.sz no none c j->c≠b:=fun c j hn hc=>hself j (hc▸hn)
          have hk:cp Γ Pu I (Γ.up H.n ⟨some (B,o'),xs.length+ys.length,e.sz,io.length⟩) Pu I':=⟨fun _ _ h=>aN.dm hs h,fun _ h=>h,fun c hc=>w8 c (hs.iT hc) fun hcb=>hs.sep b (.pos hg1 rfl hl1 hp) (hcb▸hc)⟩;obtain ⟨nn,nb⟩:=bo.app (Γ':=Γ.up H.n ⟨some (B,o'),xs.length+ys.length,e.sz,io.length⟩) (I':=I') (l':=⟨some (B,o'),xs.length+ys.length,e.sz,io.length⟩) ⟨h1,h2,h3,h4,.inr ⟨b,o,vs,f,ex,hp,he,hg,ht,hle,hro,hf,hx1,hy,hh,hd,hself⟩⟩ hp hg hrowc hcsl hyn hnilc hne ne.gG rfl w2 rfl rfl rfl w5 (by
            rcases w7 with rfl |rfl
            .exact hro
            .exact hs.ro) w4 w3 (fun c j hn=>w8 c (hs.bJ (hnbo c j hn)) (hnbne c j hn)) (fun c j hn hc=>by
            rcases w7 with h7 |h7
            .exact hnbne c j hn (hc.trans h7)
            .have:=hs.bJ (hnbo c j hn);omega) hk
          have idlt:=hs.aT id l1 hl1;have id2lt:=hs.aT id2 l2 hl2;have getH:∀ k ob,(((H.del id).del id2).new (.nest et e no net ne (xs++ys) em none)).get k=some ob->(k=H.n/\ob= .nest et e no net ne (xs++ys) em none)\/(k≠H.n/\k≠id/\k≠id2/\H.get k=some ob):=fun k ob hk'=>by
           rw [GH.ay] at hk';split at hk'
           .rename_i hkn;cases hk';exact .inl ⟨hkn,rfl⟩
           .rename_i hkn
            rw [GH.cf] at hk';split at hk'
            .cases hk'
            .rename_i hk2
             rw [GH.cf] at hk';split at hk'
             .cases hk'
             .rename_i hk1;exact .inr ⟨hkn,hk1,hk2,hk'⟩
          obtain ⟨s3,e3⟩:=hs.Nb (Γ':=Γ.up H.n ⟨some (B,o'),xs.length+ys.length,e.sz,io.length⟩) (H':=((H.del id).del id2).new (.nest et e no net ne (xs++ys) em none)) (I':=I') (fun k=>k=id\/k=id2\/k=H.n)
           (fun k ob hC hk'=>by
            rcases getH k ob hk' with ⟨g1,_⟩ |⟨_,_,_,g4⟩
            .exact absurd (.inr (.inr g1)) hC
            .exact g4)
           (fun k st hst=>by
            rw [GH.dI] at hst;split at hst
            .cases hst
             exact .inr ⟨zal _,Nat.lt_succ_self _⟩
            .rename_i hkn
             rw [GH.eu] at hst;split at hst
             .cases hst
             .rename_i hk2
              rw [GH.eu] at hst;split at hst
              .cases hst
              .rename_i hk1
               exact .inl ⟨hst,fun hC=>hC.elim hk1 fun hC=>hC.elim hk2 hkn⟩)
           (Nat.le_succ _) (Nat.le_succ _) (fun k l hk'=>aN.dm hs hk')
           (fun k l hC hk'=>by
            unfold aN.up at hk';rw [if_neg (fun hkn=>hC (.inr (.inr hkn)))] at hk';exact hk')
           (fun k l hk'=>by
            unfold aN.up at hk'
            show k<H.n+1
            split at hk'
            .omega
            .have:=hs.aT k l hk';omega)
           (fun c hc hO=>w8 c hc fun hcb=>hO ⟨id,_,l1,.inl rfl,hg1,rfl,hl1,.inl ⟨o,by rw [hcb];exact hp⟩⟩)
           w9 w10
           (fun k ob hC hk'=>by
            rcases getH k ob hk' with ⟨rfl,rfl⟩ |⟨g1,g2,g3,_⟩
            .refine ⟨_,hgam,nn,rfl,fun c hat=>?_⟩
             rcases hat with ⟨y,hpc⟩ |⟨j,hj⟩
             .cases hpc
              rcases w7 with h7 |h7
              .exact .inl ⟨id,_,l1,.inl rfl,hg1,rfl,hl1,.inl ⟨o,by rw [h7];exact hp⟩⟩
              .exact .inr (Nat.le_of_eq h7.symm)
             .exact .inl ⟨id,_,l1,.inl rfl,hg1,rfl,hl1,.inr ⟨j,nb c j hj⟩⟩
            .exact absurd hC (fun hC=>hC.elim g2 fun hC=>hC.elim g3 g1))
           (fun k k' ob ob' la lb c hC hC' hk1 hk2 _ _ _ _=>by
            rcases getH k ob hk1 with ⟨g1,_⟩ |⟨g1,g2,g3,_⟩
            .rcases getH k' ob' hk2 with ⟨g1',_⟩ |⟨g1',g2',g3',_⟩
             .rw [g1,g1']
             .exact absurd hC' (fun hC=>hC.elim g2' fun hC=>hC.elim g3' g1')
            .exact absurd hC (fun hC=>hC.elim g2 fun hC=>hC.elim g3 g1))
          exact ⟨_,_,_,_,_,_,h,rfl,.all hgam ⟨cap',by simp,by simpa using w6⟩,s3,e3⟩
       .cases h
      .cases h
    .cases h
   .cases h
  .exact nz hs h hsr hxr
 .-- onto nil
  rename_i id2;split at h
  .rename_i et e no net ne ys em2 hg2
   split at h
   .rename_i t xt a0 a1
    split at h
    .cases h
    .rename_i a2
     split at h
     .rename_i e' i a3
      split at h
      .rename_i z a5
       replace h:=ad h;obtain ⟨hb,h⟩:=h;replace hb:=ae hb;obtain ⟨hb,hb8⟩:=hb;replace hb:=ae hb;obtain ⟨hb,hb7⟩:=hb;replace hb:=ae hb;obtain ⟨hb,hb6⟩:=hb;replace hb:=ae hb;obtain ⟨hb,hb3⟩:=hb;replace hb:=ae hb;obtain ⟨hb1,hb2⟩:=hb;have q1:=aF hb1;have q2:=beq_true hb2;have q3:=beq_true hb3;have q6:=beq_true hb6;replace h:=aE h;obtain ⟨hr,h⟩:=h;have hroom:=aF hr;have hyn:∀ y∈ys,aL e no ne y= []:=fun y hy=>by
        have:=List.all_eq_true.1 hb8 y hy;exact List.isEmpty_iff.1 this
       have hne:ys≠ []:=fun h0=>by rw [h0] at hb7;cases hb7
       have hyl:ys.length≠0:=fun h0=>hne (List.eq_nil_of_length_eq_zero h0)
       cases hsr with |raw _=>
       cases hxr with |all hl2 hv2=>
       rename_i l2;obtain ⟨l2',hl2',ho2⟩:=hs.obj id2 _ hg2;cases hl2.symm.trans hl2';have n2:bo Γ Pu I l2 et e no net ne ys em2 none:=ho2;obtain ⟨b2,o2,vs2,f2,ex2,hp2,hgb2,hle2,hrow2,hnil2⟩:=n2.row hyn hne;have hsz:e.sz=i.size:=q3;have hx':∃ cap,x'= .slice (some ⟨b2,o2,none⟩) ys.length cap:=by
        rw [n2.1] at hv2;unfold fF at hv2;rw [hp2] at hv2;obtain ⟨cap,rfl,_⟩:=hv2;exact ⟨cap,by simp⟩
       obtain ⟨cap2,rfl⟩:=hx';have hcsl:((vs2.drop o2).take (ys.length*e.sz)).length=ys.length*e.sz:=by simp;omega
       have hsc:bD I i.size ys.length (.slice (some ⟨b2,o2,none⟩) ys.length cap2)=some ((vs2.drop o2).take (ys.length*e.sz)):=by
        simp only [bD,if_neg hyl,IH.bf,hgb2];rw [←hsz,if_pos hle2]
       have hrowc:=hrow2.cut ys.length (zal _);have hones:=hrowc.zn hcsl;rw [lJ a0 a1 (by simpa using a2) a3 rfl a5 hsc q1 q2 (by rw [←hsz];exact hcsl) hones];have hnilc:∀ j,j<ys.length->((vs2.drop o2).take (ys.length*e.sz))[j*e.sz+no]? =some (.slice none 0 0):=fun j hj=>by
        have hk1:=(fJ n2.2.2.2.1).1;have:(j+1)*e.sz<=ys.length*e.sz:=Nat.mul_le_mul_right _ hj;rw [zaj] at this;rw [List.getElem?_take,if_pos (by omega),List.getElem?_drop,←Nat.add_assoc];exact hnil2 j hj
       rw [←hsz];obtain ⟨s2,e2'⟩:=hs.drop id2;have hcapz:je (ff+e.sz) e.sz ys.length 0 ((vs2.drop o2).take (ys.length*e.sz)).length:= .inl rfl;obtain ⟨s3,e3,r3⟩:=xb s2 (net:=net) (em:= .any) (e:=et) n2.2.2.2.1 hcsl hrowc (fun j y hy=>⟨hyn y (List.mem_of_getElem? hy),hnilc j (List.getElem?_eq_some_iff.1 hy).1⟩) (ff+e.sz) hcapz (fun _=>hne);have hrun:fY I et e.sz i.bytes ys.length ((vs2.drop o2).take (ys.length*e.sz)) (.slice none 0 0)=some (.val (.slice (some ⟨I.n,0,none⟩) ys.length (ff+e.sz)) (I.new (.cells ((vs2.drop o2).take (ys.length*e.sz)) et 0 false false))):=by
        simp only [fY,if_neg hyl,cJ];rw [if_pos (by simpa using hroom)]
       rw [←q6,hrun];exact ⟨_,_,_,_,_,_,h,rfl,r3,s3,Ex.trans hs s2 e2' e3⟩
      .cases h
     .cases h
   .cases h
  .exact nz hs h hsr hxr
 .exact nz hs h hsr hxr
end
end Go.Gv
