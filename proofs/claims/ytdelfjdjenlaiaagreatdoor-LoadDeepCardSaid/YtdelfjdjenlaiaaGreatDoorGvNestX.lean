/- Some objects become others: those that were concerned give their blocks, those that come of them have them. -/
import Derived.Test.YtdelfjdjenlaiaaGreatDoorGvHeap
import Derived.Test.YtdelfjdjenlaiaaGreatDoorGvMap
import Derived.Test.YtdelfjdjenlaiaaGreatDoorGvSimX
import Derived.Test.YtdelfjdjenlaiaaGreatDoorGvOpsY
set_option linter.unusedSimpArgs false
set_option linter.unusedVariables false
namespace Go.Gv
open Go Go.Iv
section
variable {P:Program} {hint:Hint} {sh:cA}
variable {Γ Γ':bc} {Pu:Nat->Prop} {H H':GH} {I I':IH}
def Of (C:Nat->Prop) (Γ:bc) (H:GH) (I:IH) (b:Nat):Prop:=∃ k o l,C k/\H.get k=some o/\o.dh=true/\Γ k=some l/\At I l o b
theorem Of.own {C:Nat->Prop} {b:Nat} (h:Of C Γ H I b):bx Γ H I b:=by
 obtain ⟨k,o,l,_,h1,h2,h3,h4⟩:=h;exact ⟨k,o,l,h1,h2,h3,h4⟩
theorem aw.Qy (hs:aw P hint sh Γ Pu H I) (C:Nat->Prop)
  (hg:∀ k o,¬ C k->H'.get k=some o->H.get k=some o)
  (hst:∀ k s,H'.aT k=some s->H.aT k=some s/\¬ C k∨H.ck<=s/\s<H'.ck)
  (hck:H.ck<=H'.ck) (hn:H.n<=H'.n)
  (hΓ:∀ k l,Γ k=some l->Γ' k=some l) (hΓ2:∀ k l,¬ C k->Γ' k=some l->Γ k=some l) (hΓ3:∀ k l,Γ' k=some l->k<H'.n)
  (hI:∀ b,b<I.n->¬ Of C Γ H I b->I'.get b=I.get b) (hIn:I.n<=I'.n) (hfr:∀ b,I'.n<=b->I'.get b=none)
  (hC:∀ k o,C k->H'.get k=some o->∃ l,Γ' k=some l/\OR P hint Γ' Pu I' l o/\o.dh=true/\∀ b,At I' l o b->Of C Γ H I b∨I.n<=b)
  (hinj:∀ k k' o o' l l' b,C k->C k'->H'.get k=some o->H'.get k'=some o'->Γ' k=some l->Γ' k'=some l'->At I' l o b->At I' l' o' b->k=k'):
  aw P hint sh Γ' Pu H' I'/\Ex (bx Γ H I) Γ Pu H I Γ' Pu H' I':=by
 have hp:∀ b,Pu b->I'.get b=I.get b:=fun b hb=>hI b (hs.jh hb) fun h=>hs.sep b h.own hb
 have hk:cH Γ Pu I Γ' Pu I':=⟨hΓ,fun _ h=>h,hp⟩;have oth:∀ k o l b,¬ C k->H.get k=some o->o.dh=true->Γ k=some l->At I l o b->¬ Of C Γ H I b:=by
  rintro k o l b hck h1 h2 h3 h4 ⟨k',o',l',c,g1,g2,g3,g4⟩;exact hck ((hs.inj k k' o o' l l' b h1 g1 h2 g2 h3 g3 h4 g4)▸c)
 have ato:∀ k o l b,¬ C k->H.get k=some o->o.dh=true->Γ k=some l->At I' l o b->At I l o b:=fun k o l b hck h1 h2 h3 h4=>
  h4.congr fun b' x hp'=>hI b' (hs.cq (.pos h1 h2 h3 hp')) (oth k o l b' hck h1 h2 h3 (.inl ⟨x,hp'⟩))
 have ownI:∀ b,bx Γ' H' I' b->bx Γ H I b∨I.n<=b:=by
  rintro b ⟨k,o,l,h1,h2,h3,h4⟩;by_cases c:C k
  ·obtain ⟨l',g1,_,_,g2⟩:=hC k o c h1
   cases h3.symm.trans g1;exact (g2 b h4).imp (fun h=>h.own) id
  ·have e1:=hg k o c h1
   have e2:=hΓ2 k l c h3;exact .inl ⟨k,o,l,e1,h2,e2,ato k o l b c e1 h2 e2 h4⟩
 refine ⟨⟨?_,?_,fun b h hpu=>(ownI b h).elim (fun h=>hs.sep b h hpu) (fun h=>Nat.lt_irrefl _ (Nat.lt_of_lt_of_le (hs.jh hpu) h)),hΓ3,?_,?_,Nat.le_trans hs.ro hIn,Nat.le_trans hs.gn hn,?_,?_,hs.oE hk.p hk.i⟩,⟨hΓ,hn,hIn,fun _ h=>h,fun b hb ho=>hI b hb fun h=>ho h.own,fun b hb h=>(ownI b h).elim id (fun h=>absurd hb (Nat.not_lt.2 h)),fun _ _ h=> .inl h,hck,?_,?_⟩⟩
 ·intro k o h
  by_cases c:C k
  ·obtain ⟨l,g1,g2,_⟩:=hC k o c h
   exact ⟨l,g1,g2⟩
  ·have e1:=hg k o c h
   obtain ⟨l,hl,_⟩:=hs.obj k o e1;exact ⟨l,hΓ k l hl,hs.dR hk e1 hl fun hm b hat=>hI b (hs.cq ⟨k,o,l,e1,hm,hl,hat⟩) (oth k o l b c e1 hm hl hat)⟩
 ·intro k k' o o' l l' b h1 h2 h3 h4 h5 h6 h7 h8
  by_cases c:C k
  ·by_cases c':C k'
   ·exact hinj k k' o o' l l' b c c' h1 h2 h5 h6 h7 h8
   ·obtain ⟨l2,g1,_,_,g2⟩:=hC k o c h1
    cases h5.symm.trans g1;have e1:=hg k' o' c' h2;have e2:=hΓ2 k' l' c' h6;have e3:=ato k' o' l' b c' e1 h4 e2 h8;rcases g2 b h7 with g3 |g3
    ·exact absurd g3 (oth k' o' l' b c' e1 h4 e2 e3)
    ·exact absurd (hs.cq ⟨k',o',l',e1,h4,e2,e3⟩) (Nat.not_lt.2 g3)
  ·have e1:=hg k o c h1
   have e2:=hΓ2 k l c h5;have e3:=ato k o l b c e1 h3 e2 h7;by_cases c':C k'
   ·obtain ⟨l2,g1,_,_,g2⟩:=hC k' o' c' h2
    cases h6.symm.trans g1;rcases g2 b h8 with g3 |g3
    ·exact absurd g3 (oth k o l b c e1 h3 e2 e3)
    ·exact absurd (hs.cq ⟨k,o,l,e1,h3,e2,e3⟩) (Nat.not_lt.2 g3)
   ·have e1':=hg k' o' c' h2
    have e2':=hΓ2 k' l' c' h6;exact hs.inj k k' o o' l l' b e1 e1' h3 h4 e2 e2' e3 (ato k' o' l' b c' e1' h4 e2' h8)
 ·exact hfr
 ·intro b hb
  obtain ⟨cs,et,fz,ex,sd,h⟩:=hs.pu b hb;exact ⟨cs,et,fz,ex,sd,(hp b hb).trans h⟩
 ·intro g hgl
  obtain ⟨l,h1,h2⟩:=hs.cE g hgl;exact ⟨l,hΓ g l h1,h2⟩
 ·intro k s h
  rcases hst k s h with ⟨h1,_⟩ |⟨_,h1⟩
  ·exact Nat.lt_of_lt_of_le (hs.st k s h1) hck
  ·exact h1
 ·intro k hk'
  cases h:H'.aT k with
  |none=>exact .inl rfl
  |some s=>
   rcases hst k s h with ⟨h1,_⟩ |⟨h1,_⟩
   ·exact .inr (.inl h1.symm)
   ·exact .inr (.inr ⟨s,rfl,h1⟩)
 ·intro k l b x s h1 h2 h3 h4
  rcases hst k s h2 with ⟨_,c⟩ |⟨g1,_⟩
  ·exact hs.eC hk h1 h3 h4 fun o hg' hm=>hI b (hs.cq (.pos hg' hm h3 h4)) (oth k o l b c hg' hm h3 (.inl ⟨x,h4⟩))
  ·have:=hs.st k s h1;omega
theorem aw.shift (hs:aw P hint sh Γ Pu H I) (C:Nat->Prop)
  (hg:∀ k o,¬ C k->H'.get k=some o->H.get k=some o)
  (hst:∀ k s,H'.aT k=some s->H.aT k=some s/\¬ C k∨H.ck<=s/\s<H'.ck)
  (hck:H.ck<=H'.ck) (hn:H.n<=H'.n)
  (hΓ:∀ k l,Γ k=some l->Γ' k=some l) (hΓ2:∀ k l,¬ C k->Γ' k=some l->Γ k=some l) (hΓ3:∀ k l,Γ' k=some l->k<H'.n)
  (hI:∀ b,¬ Of C Γ H I b->I'.get b=I.get b) (hIn:I'.n=I.n)
  (hC:∀ k o,C k->H'.get k=some o->∃ l,Γ' k=some l/\OR P hint Γ' Pu I' l o/\o.dh=true/\∀ b,At I' l o b->Of C Γ H I b)
  (hinj:∀ k k' o o' l l' b,C k->C k'->H'.get k=some o->H'.get k'=some o'->Γ' k=some l->Γ' k'=some l'->At I' l o b->At I' l' o' b->k=k'):
  aw P hint sh Γ' Pu H' I'/\Ex (bx Γ H I) Γ Pu H I Γ' Pu H' I':=
 hs.Qy C hg hst hck hn hΓ hΓ2 hΓ3 (fun b _=>hI b) (Nat.le_of_eq hIn.symm) (fun b hb=>by
  rw [hIn] at hb;by_cases h:Of C Γ H I b
  ·have:=hs.cq h.own;omega
  ·rw [hI b h];exact hs.fresh b hb)
  (fun k o c h=>by
   obtain ⟨l,a,b,d,e⟩:=hC k o c h;exact ⟨l,a,b,d,fun x hx=> .inl (e x hx)⟩) hinj
end
end Go.Gv
/- Lists whose elements hold lists: the operations. -/
namespace Go.Gv
open Go Go.Iv
section
variable {β:Type} {P:Program} {hint:Hint} {sh:cA} {Γ Γ1 Γ':bc} {Pu Pu1:Nat->Prop} {H H1:GH} {I I1 I':IH} {K:TV->GH->Option β} {r:β}
theorem jb.isNil {l:Loc} {et:TypeId} {e:Sh} {xs:List e.ty} {w fz:Bool} {v:Value} (h:jb Pu I l et e xs w fz .ex) (hv:fT l 0 l.len v) (hx:xs= []):l.pos=none:=by
 obtain ⟨_,_,_,h4 |⟨b,o,vs,f,ex,sd,hp,he,_⟩⟩:=h
 ·exact h4.1
 ·exact absurd hx (he rfl)
theorem bH.lay {l:Loc} {et:TypeId} {e:Sh} {no:Nat} {net:TypeId} {ne:Sh} {xs:List e.ty} {em:Em} {ho:Option (Nat×Nat×e.ty)} (h:bH Γ Pu I l et e no net ne xs em ho) {i:Nat} {x:e.ty} (hx:xs[i]? =some x) (hho:∀ j n y,ho=some (j,n,y)->j=i)
  {ys:List ne.ty} {ln:Loc} {v:Value} (hn:jb Pu I ln net ne ys true false .ex) (hv:fT ln 0 ln.len v) {b0 o:Nat} (hp:l.pos=some (b0,o)) {vs:List Value} {f:Nat} {ex:Bool} (hg:I.get b0=some (.cells vs et f ex false))
  (hI0:I'.get b0=some (.cells (vs.set (o+i*e.sz+no) v) et f ex false)) (hI:∀ b,b≠b0->I'.get b=I.get b) (hk:cH Γ Pu I Γ' Pu I')
  (hb:∀ b,oW v=some b->b≠b0/\∀ j,j≠i->¬ NB I l e.sz no (ho.map (·.1)) b j):
  bH Γ' Pu I' l et e no net ne (xs.set i (du e no ne x ys)) em none/\∀ b j,NB I' l e.sz no none b j->(j=i/\oW v=some b)∨(j≠i/\NB I l e.sz no (ho.map (·.1)) b j):=by
 obtain ⟨h1,h2,h3,h4,h5 |⟨b1,o1,vs1,f1,ex1,hp1,he,hg1,ht,hl,hro,hf,hE,hy,hh,hd,hself⟩⟩:=h
 ·rw [h5.1] at hp;cases hp
 cases hp.symm.trans hp1;cases hg.symm.trans hg1;obtain ⟨hno,hok⟩:=eJ h4;have hi:i<xs.length:=(List.getElem?_eq_some_iff.1 hx).1;have cell:∀ j,j<xs.length->o+j*e.sz+no<vs.length:=fun j hj=>by
  have:(j+1)*e.sz<=xs.length*e.sz:=Nat.mul_le_mul_right _ hj;rw [zag,Nat.one_mul] at this;omega
 have cne:∀ j,j≠i->o+i*e.sz+no≠o+j*e.sz+no:=fun j hj hc=>by
  have:i*e.sz=j*e.sz:=by omega
  exact hj (Nat.eq_of_mul_eq_mul_right h3 this).symm
 have nb:∀ b j,NB I' l e.sz no none b j->(j=i/\oW v=some b)∨(j≠i/\NB I l e.sz no (ho.map (·.1)) b j):=by
  rintro b j ⟨_,n2,b2,o2,vs2,et2,f2,ex2,sd2,hp2,hg2,hv2⟩;cases hp.symm.trans hp2;rw [hI0] at hg2;cases hg2;have hj:j<xs.length:=by rw [←h1];exact n2
  by_cases hji:j=i
  ·subst hji
   rw [List.getElem?_set_self (cell j hj)] at hv2;exact .inl ⟨rfl,hv2⟩
  ·rw [List.getElem?_set_ne (cne j hji)] at hv2
   refine .inr ⟨hji,?_,n2,b0,o,vs,et,f,ex,false,hp,hg,hv2⟩;intro hc;cases ho with
   |none=>cases hc
   |some q=>
    obtain ⟨j2,n,y⟩:=q;simp only [Option.map_some,Option.some.injEq] at hc;exact hji (hc▸hho j2 n y rfl)
 refine ⟨⟨by rw [List.length_set];exact h1,h2,h3,h4,.inr ⟨b0,o,_,f,ex,hp,fun hem hc=>he hem (by have:=congrArg List.length hc;rw [List.length_set] at this;exact List.eq_nil_of_length_eq_zero this),hI0,by rw [List.length_set];exact ht,by rw [List.length_set,List.length_set];exact hl,hro,hf,?_,?_,(fun _ _ _ h=>by cases h),?_,?_⟩⟩,nb⟩
 ·intro j z hz
  rw [List.getElem?_set] at hz;have drop_set:∀ j,(((vs.set (o+i*e.sz+no) v).drop (o+j*e.sz)).take e.sz)=if j=i then (((vs.drop (o+j*e.sz)).take e.sz).set no v) else ((vs.drop (o+j*e.sz)).take e.sz):=by
   intro j;apply List.ext_getElem?;intro k;rw [List.getElem?_take,List.getElem?_drop];by_cases hk2:k<e.sz
   ·rw [if_pos hk2]
    by_cases hji:j=i
    ·subst hji
     rw [if_pos rfl,List.getElem?_set,List.getElem?_set,List.getElem?_take,if_pos hk2,List.getElem?_drop];by_cases hkn:no=k
     ·subst hkn
      simp only [if_true,List.length_take,List.length_drop];by_cases hc:o+j*e.sz+no<vs.length
      ·rw [if_pos hc,if_pos (by omega)]
      ·rw [if_neg hc,if_neg (by omega)]
     ·rw [if_neg (by omega),if_neg hkn]
    ·rw [if_neg hji,List.getElem?_take,if_pos hk2,List.getElem?_drop,List.getElem?_set_ne]
     intro hc;rcases Nat.lt_or_gt_of_ne hji with hlt |hlt
     ·have:(j+1)*e.sz<=i*e.sz:=Nat.mul_le_mul_right _ hlt
      rw [zag,Nat.one_mul] at this;omega
     ·have:(i+1)*e.sz<=j*e.sz:=Nat.mul_le_mul_right _ hlt
      rw [zag,Nat.one_mul] at this;omega
   ·rw [if_neg hk2]
    split
    ·rw [List.getElem?_set,List.getElem?_take,if_neg hk2]
     split
     ·omega
     ·rfl
    ·rw [List.getElem?_take,if_neg hk2]
  rw [drop_set j];split at hz
  ·rename_i hij
   subst hij;cases hz;rw [if_pos rfl,MJ h4];have h0:=(hE i x hx).mono hk;have:=h0.set no (GR.undef (Γ:=Γ') (Pu:=Pu) (I:=I') v)
   rwa [List.set_set] at this
  ·rename_i hij
   rw [if_neg (fun hc=>hij hc.symm)];exact (hE j z hz).mono hk
 ·intro j z w hz _ hw
  rw [List.getElem?_set] at hz;split at hz
  ·rename_i hij
   subst hij
   first |(rw [if_pos hi] at hz) |skip
   cases hz;rw [List.getElem?_set_self (cell i hi)] at hw;cases hw;rw [EY h4];refine ⟨ln,hn.mono hk.p hk.i fun b y hp'=>hI b fun hc=>?_,hv⟩;exact (hb b (na hv hp')).1 hc
  ·rename_i hij
   have hji:j≠i:=fun hc=>hij hc.symm
   rw [List.getElem?_set_ne (cne j hji)] at hw;have hne:ho.map (·.1)≠some j:=fun hc=>by
    cases ho with
    |none=>cases hc
    |some q=>
     obtain ⟨j2,n,y⟩:=q;simp only [Option.map_some,Option.some.injEq] at hc;exact hji (hc▸hho j2 n y rfl)
   obtain ⟨l',a1,a2⟩:=hy j z w hz hne hw;refine ⟨l',a1.mono hk.p hk.i fun b y hp'=>hI b fun hc=>?_,a2⟩;refine hself j ⟨hne,by rw [h1];exact (List.getElem?_eq_some_iff.1 hz).1,b0,o,vs,et,f,ex,false,hp,hg,?_⟩;rw [hw,←hc];exact na a2 hp'
 ·intro j k b n1 n2
  rcases nb b j n1 with ⟨e1,e2⟩ |⟨e1,e2⟩<;>rcases nb b k n2 with ⟨g1,g2⟩ |⟨g1,g2⟩
  ·rw [e1,g1]
  ·exact absurd g2 ((hb b e2).2 k g1)
  ·exact absurd e2 ((hb b g2).2 j e1)
  ·exact hd j k b e2 g2
 ·intro j n1
  rcases nb b0 j n1 with ⟨e1,e2⟩ |⟨e1,e2⟩
  ·exact (hb b0 e2).1 rfl
  ·exact hself j e2
end
end Go.Gv
/- Lists whose elements hold lists: taken out, laid back. -/
namespace Go.Gv
open Go Go.Iv
section
variable {β:Type} {P:Program} {hint:Hint} {sh:cA} {Γ Γ1 Γ':bc} {Pu Pu1:Nat->Prop} {H H1:GH} {I I1 I':IH} {K:TV->GH->Option β} {r:β}
theorem iT {α:Type} {l:List α} {i:Nat} {a:α} (h:l[i]? =some a):l.set i a=l:=by
 apply List.ext_getElem?;intro k;rw [List.getElem?_set];split
 ·rename_i e
  subst e;rw [if_pos (List.getElem?_eq_some_iff.1 h).1,h]
 ·rfl
theorem aw.WJ (hs:aw P hint sh Γ Pu H I) {id n:Nat} {o o':bL} {l l':Loc} {b x:Nat} (h1:H.get id=some o) (h2:H.get n=some o') (m1:o.dh=true) (m2:o'.dh=true) (g1:Γ id=some l) (g2:Γ n=some l') (hne:id≠n) (hp:l'.pos=some (b,x)):¬ At I l o b:=
 fun h=>hne (hs.inj id n o o' l l' b h1 h2 m1 m2 g1 g2 h (.inl ⟨x,hp⟩))
theorem jb.exact {l:Loc} {et:TypeId} {e:Sh} {xs:List e.ty} {w fz:Bool} {em:Em} (h:jb Pu I l et e xs w fz em) (hem:em= .ex∨xs≠ []):jb Pu I l et e xs w fz .ex:=by
 rcases hem with rfl |hne
 ·exact h
 ·obtain ⟨h1,h2,h3,h4 |⟨b,o,vs,f,ex,sd,hp,he,hr⟩⟩:=h
  ·exact absurd h4.2.1 hne
  ·exact ⟨h1,h2,h3,.inr ⟨b,o,vs,f,ex,sd,hp,fun _=>hne,hr⟩⟩
theorem aw.XH (hs:aw P hint sh Γ Pu H I) {id m:Nat} {et:TypeId} {e:Sh} {no:Nat} {net:TypeId} {ne:Sh} {xs:List e.ty} {em:Em} {em':Em} {ho:Option (Nat×Nat×e.ty)} {ys:List ne.ty} {l lm:Loc}
  (hg:H.get id=some (.nest et e no net ne xs em ho)) (hl:Γ id=some l) (hgm:H.get m=some (.arr net ne ys true false em')) (hem:em'= .ex∨ys≠ []) (hlm:Γ m=some lm)
  {i:Nat} {x:e.ty} (hx:xs[i]? =some x) (hho:∀ j n y,ho=some (j,n,y)->j=i) {v:Value} (hv:fT lm 0 lm.len v)
  {b0 o:Nat} (hp:l.pos=some (b0,o)) {vs:List Value} {f:Nat} {ex:Bool} (hgb:I.get b0=some (.cells vs et f ex false))
  (hI0:I'.get b0=some (.cells (vs.set (o+i*e.sz+no) v) et f ex false)) (hI:∀ b,b≠b0->I'.get b=I.get b) (hIn:I'.n=I.n):
  aw P hint sh Γ Pu ((H.del m).put id (.nest et e no net ne (xs.set i (du e no ne x ys)) em none)) I'/\
   Ex (bx Γ H I) Γ Pu H I Γ Pu ((H.del m).put id (.nest et e no net ne (xs.set i (du e no ne x ys)) em none)) I':=by
 obtain ⟨l1,hl1,hN⟩:=hs.obj id _ hg;cases hl.symm.trans hl1;obtain ⟨l2,hl2,hA0⟩:=hs.obj m _ hgm;cases hlm.symm.trans hl2;have hA:jb Pu I lm net ne ys true false .ex:=jb.exact hA0 hem;have hne:id≠m:=by rintro rfl;rw [hg] at hgm;cases hgm
 have hown:bx Γ H I b0:= .pos hg rfl hl hp;have hnp:=hs.sep b0 hown;have hk:cH Γ Pu I Γ Pu I':=⟨fun _ _ h=>h,fun _ h=>h,fun b hb=>hI b fun hc=>hnp (hc▸hb)⟩;have hap:∀ b,oW v=some b->¬ At I l (.nest et e no net ne xs em ho) b:=fun b hb=>by
  obtain ⟨y,hy⟩:=vi hv hb;exact hs.WJ hg hgm rfl rfl hl hlm hne hy
 obtain ⟨q1,q2⟩:=bH.lay (Γ':=Γ) hN hx hho hA hv hp hgb hI0 hI hk (fun b hb=>⟨fun hc=>hap b hb (.inl ⟨o,hc▸hp⟩),fun j _ hn=>hap b hb (.inr ⟨j,hn⟩)⟩);refine hs.shift (fun k=>k=id∨k=m) ?_ ?_ (Nat.le_succ _) (zai _) (fun _ _ h=>h) (fun _ _ _ h=>h) hs.bj ?_ hIn ?_ ?_
 ·intro k ob hc h
  rw [GH.ah,GH.cO] at h;split at h
  ·rename_i h1;exact absurd (.inl h1) hc
  ·split at h
   ·cases h
   ·exact h
 ·intro k s h
  rw [GH.fl,GH.eB] at h;split at h
  ·cases h;exact .inr ⟨zai _,Nat.lt_succ_self _⟩
  ·rename_i h1
   split at h
   ·cases h
   ·rename_i h2;exact .inl ⟨h,fun hc=>hc.elim h1 h2⟩
 ·intro b hb
  exact hI b fun hc=>hb ⟨id,_,l,.inl rfl,hg,rfl,hl,.inl ⟨o,hc▸hp⟩⟩
 ·intro k ob hc h
  rw [GH.ah,GH.cO] at h;split at h
  ·rename_i h1
   subst h1;cases h;refine ⟨l,hl,q1,rfl,fun b hat=>?_⟩;rcases hat with ⟨y,h2⟩ |⟨j,hj⟩
   ·exact ⟨k,_,l,.inl rfl,hg,rfl,hl,.inl ⟨y,h2⟩⟩
   ·rcases q2 b j hj with ⟨_,h3⟩ |⟨_,h3⟩
    ·obtain ⟨y,hy⟩:=vi hv h3
     exact ⟨m,_,lm,.inr rfl,hgm,rfl,hlm,.inl ⟨y,hy⟩⟩
    ·exact ⟨k,_,l,.inl rfl,hg,rfl,hl,.inr ⟨j,h3⟩⟩
  ·rename_i h1
   split at h
   ·cases h
   ·rename_i h2;exact absurd hc (fun h=>h.elim h1 h2)
 ·intro k k' ob ob' l1 l2 b c1 c2 g1 g2 _ _ _ _
  have key:∀ {k ob},(k=id∨k=m)->((H.del m).put id (.nest et e no net ne (xs.set i (du e no ne x ys)) em none)).get k=some ob->k=id:=fun {k ob} hc h=>by
   rw [GH.ah,GH.cO] at h;split at h
   ·assumption
   ·rename_i h1
    split at h
    ·cases h
    ·rename_i h2;exact absurd hc (fun h=>h.elim h1 h2)
  rw [key c1 g1,key c2 g2]
theorem mZ (hs:aw P hint sh Γ Pu H I) (id:Nat):aw P hint sh Γ Pu (oD H id) I/\Ex (bx Γ H I) Γ Pu H I Γ Pu (oD H id) I:=by
 unfold oD;split
 ·rename_i et e no net ne xs em i n x hg
  split
  ·rename_i net' ne' ys hgn
   cases hb:Nat.beq net' net with
   |false=>exact ⟨hs,Ex.refl hs⟩
   |true=>
    have:=beq_true hb;subst this;simp only [zac];split
    ·rename_i hh _
     subst hh;obtain ⟨l,hl,hN⟩:=hs.obj id _ hg;have hN':bH Γ Pu I l et e no net' ne' xs em (some (i,n,x)):=hN;obtain ⟨h1,h2,h3,h4,h5 |⟨b0,o,vs,f,ex,hp,he,hgb,ht,hlen,hro,hf,hE,hy,hh,hd,hself⟩⟩:=hN'
     ·cases h5.2.2.2
     ·obtain ⟨hx,ln,v,a2,a3,a4⟩:=hh i n x rfl
      exact hs.XH hg hl hgn (.inl rfl) a2 hx (fun j k y h=>by cases h;rfl) a4 hp hgb (by rw [iT a3];exact hgb) (fun _ _=>rfl) rfl
    ·exact ⟨hs,Ex.refl hs⟩
  ·exact ⟨hs,Ex.refl hs⟩
 ·exact ⟨hs,Ex.refl hs⟩
theorem bH.cells {l:Loc} {et:TypeId} {e:Sh} {no:Nat} {net:TypeId} {ne:Sh} {xs:List e.ty} {em:Em} {ho:Option (Nat×Nat×e.ty)} (h:bH Γ Pu I l et e no net ne xs em ho) {i:Nat} {x:e.ty} (hx:xs[i]? =some x) {b o:Nat} (hp:l.pos=some (b,o)) (off:Nat) (hoff:off<=e.sz):
  ∃ bs f ex,I.get b=some (.cells bs et f ex false)/\o+i*l.sz+off+(((e.de x).set no .undef).drop off).length<=bs.length/\bK Γ Pu I (((e.de x).set no .undef).drop off) ((bs.drop (o+i*l.sz+off)).take (((e.de x).set no .undef).drop off).length):=by
 obtain ⟨h1,h2,h3,h4,h5 |⟨b0,o',vs,f,ex,hp2,he,hgb,ht,hlen,hro,hf,hE,_⟩⟩:=h
 ·rw [h5.1] at hp;cases hp
 ·cases hp.symm.trans hp2
  have hr:=hE i x hx;have hlt:((e.de x).set no .undef).length=e.sz:=by rw [List.length_set,jf]
  have hil:i<xs.length:=(List.getElem?_eq_some_iff.1 hx).1;have hb:o+i*e.sz+e.sz<=vs.length:=by
   have:(i+1)*e.sz<=xs.length*e.sz:=Nat.mul_le_mul_right _ hil;rw [zag,Nat.one_mul] at this;omega
  have hd:=hr.drop off;rw [h2];have e1:(((e.de x).set no .undef).drop off).length=e.sz - off:=by rw [List.length_drop,hlt]
  refine ⟨vs,f,ex,hgb,by rw [e1];omega,?_⟩;rw [e1];rw [List.drop_take,zah] at hd;exact hd
theorem Mx (hs:aw P hint sh Γ Pu H I) {t:TypeId} {id i off:Nat} {a':Value} (h:Cp dW P H t id i off K=some r) (ha:GR Γ Pu I (.jd id i off) a'):Good P hint sh K r Γ Pu H I (aq (dy P I t a')):=by
 unfold Cp at h;cases ha with |jd hl hp=>
 split at h
 ·rename_i et e no net ne xs em ho hg
  replace h:=ae h;obtain ⟨hb,h⟩:=h;obtain ⟨x,hx,h2⟩:=eM h;split at h2
  ·rename_i y hy
   obtain ⟨l',hl',hN⟩:=hs.obj id _ hg;cases hl.symm.trans hl';obtain ⟨bs,f,ex,hgb,hle,hr⟩:=bH.cells hN hx hp off (aB hb);obtain ⟨v,hv,hrv⟩:=kc (P:=P) (t:=t) hgb hle hr hy;simp only [dy,hv,aq];exact Good.same hs h2 hrv
  ·cases h2
 ·cases h
theorem aw.Ys (hs:aw P hint sh Γ Pu H I) {id:Nat} {et:TypeId} {e:Sh} {no:Nat} {net:TypeId} {ne:Sh} {xs:List e.ty} {em:Em} {l:Loc}
  (hg:H.get id=some (.nest et e no net ne xs em none)) (hl:Γ id=some l) {i:Nat} {x:e.ty} (hx:xs[i]? =some x) {b0 o:Nat} (hp:l.pos=some (b0,o)):
  ∃ vs f ex v l',I.get b0=some (.cells vs et f ex false)/\vs[o+i*l.sz+no]? =some v/\GR (Γ.up H.n l') Pu I (.all H.n) v/\
   aw P hint sh (Γ.up H.n l') Pu ((H.put id (.nest et e no net ne xs em (some (i,H.n,x)))).new (.arr net ne (aY e no ne x) true false .ex)) I/\
   Ex (bx Γ H I) Γ Pu H I (Γ.up H.n l') Pu ((H.put id (.nest et e no net ne xs em (some (i,H.n,x)))).new (.arr net ne (aY e no ne x) true false .ex)) I:=by
 obtain ⟨l1,hl1,hN⟩:=hs.obj id _ hg;cases hl.symm.trans hl1;have hN':bH Γ Pu I l et e no net ne xs em none:=hN;obtain ⟨h1,h2,h3,h4,h5 |⟨b1,o1,vs,f,ex,hp1,he,hgb,ht,hlen,hro,hf,hE,hy,hh,hd,hself⟩⟩:=hN'
 ·rw [h5.1] at hp;cases hp
 cases hp.symm.trans hp1;obtain ⟨hno,_⟩:=eJ h4;have hi:i<xs.length:=(List.getElem?_eq_some_iff.1 hx).1;have hcell:o+i*e.sz+no<vs.length:=by
  have:(i+1)*e.sz<=xs.length*e.sz:=Nat.mul_le_mul_right _ hi;rw [zag,Nat.one_mul] at this;omega
 have hv:vs[o+i*e.sz+no]? =some vs[o+i*e.sz+no]:=zaj hcell;generalize vs[o+i*e.sz+no]=v at hv;obtain ⟨l',a1,a2⟩:=hy i x v hx (by simp) hv;have hidn:id<H.n:=hs.bj id l hl;have hk:cH Γ Pu I (Γ.up H.n l') Pu I:=⟨fun _ _ h=>bc.dG hs h,fun _ h=>h,fun _ _=>rfl⟩;have upn:Γ.up H.n l' H.n=some l':=by simp [bc.up]
 have old:∀ k ob,H.get k=some ob->k≠H.n:=fun k ob h=>by
  obtain ⟨lk,hlk,_⟩:=hs.obj k ob h;exact Nat.ne_of_lt (hs.bj k lk hlk)
 have stay:∀ b j,NB I l e.sz no (some i) b j->j≠i/\NB I l e.sz no none b j:=by
  rintro b j ⟨n1,n2⟩;exact ⟨fun hc=>n1 (by rw [hc]),by simp,n2⟩
 have outb:∀ b y,l'.pos=some (b,y)->NB I l e.sz no none b i:=fun b y hp'=>⟨by simp,by rw [h1];exact hi,b0,o,vs,et,f,ex,false,hp,hgb,by rw [hv];exact na a2 hp'⟩
 have newN:bH (Γ.up H.n l') Pu I l et e no net ne xs em (some (i,H.n,x)):=by
  refine ⟨h1,h2,h3,h4,.inr ⟨b0,o,vs,f,ex,hp,he,hgb,ht,hlen,hro,hf,fun j z hz=>(hE j z hz).mono hk,fun j z w hz _ hw=>?_,fun j n z hz=>?_,fun j k b n1 n2=>hd j k b (stay b j n1).2 (stay b k n2).2,fun j n1=>hself j (stay b0 j n1).2⟩⟩
  ·obtain ⟨l2,c1,c2⟩:=hy j z w hz (by simp) hw
   exact ⟨l2,c1,c2⟩
  ·cases hz
   exact ⟨hx,l',v,upn,hv,a2⟩
 have hget:∀ k,((H.put id (.nest et e no net ne xs em (some (i,H.n,x)))).new (.arr net ne (aY e no ne x) true false .ex)).get k=if k=H.n then some (.arr net ne (aY e no ne x) true false .ex) else if k=id then some (.nest et e no net ne xs em (some (i,H.n,x))) else H.get k:=fun k=>by
  rw [GH.az,GH.ah];rfl
 have hstm:∀ k,((H.put id (.nest et e no net ne xs em (some (i,H.n,x)))).new (.arr net ne (aY e no ne x) true false .ex)).aT k=if k=H.n then some (H.ck+1) else if k=id then some H.ck else H.aT k:=fun k=>by
  rw [GH.dT,GH.fl];rfl
 obtain ⟨s1,e1⟩:=hs.shift (H':=(H.put id (.nest et e no net ne xs em (some (i,H.n,x)))).new (.arr net ne (aY e no ne x) true false .ex)) (Γ':=Γ.up H.n l') (I':=I) (fun k=>k=id∨k=H.n)
  (fun k ob hc h=>by
   rw [hget] at h;split at h
   ·rename_i c;exact absurd (.inr c) hc
   ·split at h
    ·rename_i c;exact absurd (.inl c) hc
    ·exact h)
  (fun k s h=>by
   rw [hstm] at h
   show _∨_/\s<H.ck+1+1
   split at h
   ·cases h;exact .inr ⟨by omega,by omega⟩
   ·rename_i c1
    split at h
    ·cases h;exact .inr ⟨by omega,by omega⟩
    ·rename_i c2;exact .inl ⟨h,fun hc=>hc.elim c2 c1⟩)
  (by show H.ck<=H.ck+1+1;omega) (Nat.le_succ _) hk.g
  (fun k lk hc h=>by
   unfold bc.up at h;rw [if_neg (fun hc'=>hc (.inr hc'))] at h;exact h)
  (fun k lk h=>by
   unfold bc.up at h
   show k<H.n+1
   split at h
   ·omega
   ·have:=hs.bj k lk h;omega)
  (fun _ _=>rfl) rfl
  (fun k ob hc h=>by
   rw [hget] at h;split at h
   ·rename_i c
    subst c;cases h;refine ⟨l',upn,a1,rfl,fun b hat=>?_⟩;rcases hat with ⟨y,hp'⟩ |hh'
    ·exact ⟨id,_,l,.inl rfl,hg,rfl,hl,.inr ⟨i,outb b y hp'⟩⟩
    ·exact absurd hh' (fun h=>h)
   ·split at h
    ·rename_i c
     subst c;cases h;refine ⟨l,hk.g _ _ hl,newN,rfl,fun b hat=>?_⟩;rcases hat with hat |⟨j,hj⟩
     ·exact ⟨k,_,l,.inl rfl,hg,rfl,hl,.inl hat⟩
     ·exact ⟨k,_,l,.inl rfl,hg,rfl,hl,.inr ⟨j,(stay b j hj).2⟩⟩
    ·rename_i c1 c2;exact absurd hc (fun h=>h.elim c2 c1))
  (fun k k' ob ob' l1 l2 b c1 c2 g1 g2 e1 e2 t1 t2=>by
   have cross:∀ b,At I l' (.arr net ne (aY e no ne x) true false .ex) b->At I l (.nest et e no net ne xs em (some (i,H.n,x))) b->False:=fun b u1 u2=>by
    rcases u1 with ⟨y,hp'⟩ |hh'
    ·have hb:=outb b y hp'
     rcases u2 with ⟨z,hz⟩ |⟨j,hj⟩
     ·rw [hp] at hz;cases hz;exact hself i hb
     ·obtain ⟨q1,q2⟩:=stay b j hj
      exact q1 (hd j i b q2 hb)
    ·exact hh'
   rw [hget] at g1 g2;split at g1<;>split at g2
   ·rename_i a b;rw [a,b]
   ·rename_i a b
    subst a;cases g1;rw [upn] at e1;cases e1;split at g2
    ·rename_i c
     subst c;cases g2;cases (hk.g _ _ hl).symm.trans e2;exact (cross _ t1 t2).elim
    ·rename_i c;exact absurd c2 (fun h=>h.elim c b)
   ·rename_i a b
    subst b;cases g2;rw [upn] at e2;cases e2;split at g1
    ·rename_i c
     subst c;cases g1;cases (hk.g _ _ hl).symm.trans e1;exact (cross _ t2 t1).elim
    ·rename_i c;exact absurd c1 (fun h=>h.elim c a)
   ·rename_i a b
    rcases c1 with c1 |c1
    ·rcases c2 with c2 |c2
     ·rw [c1,c2]
     ·exact absurd c2 b
    ·exact absurd c1 a)
 exact ⟨vs,f,ex,v,l',hgb,by rw [h2];exact hv,.all upn a2,s1,e1⟩
end
end Go.Gv
/- Lists whose elements hold lists: the operations. -/
namespace Go.Gv
open Go Go.Iv
section
variable {β:Type} {P:Program} {hint:Hint} {sh:cA} {Γ Γ1 Γ':bc} {Pu Pu1:Nat->Prop} {H H1:GH} {I I1 I':IH} {K:TV->GH->Option β} {r:β}
theorem Good.after (hs:aw P hint sh Γ Pu H I) (h1:aw P hint sh Γ1 Pu1 H1 I1) (he:Ex (bx Γ H I) Γ Pu H I Γ1 Pu1 H1 I1) {run:Option (Value×IH)} (h:Good P hint sh K r Γ1 Pu1 H1 I1 run):Good P hint sh K r Γ Pu H I run:=by
 obtain ⟨t,H2,Γ2,Pu2,v,I2,a,b,c,d,e⟩:=h;exact ⟨t,H2,Γ2,Pu2,v,I2,a,b,c,d,Ex.trans hs h1 he e⟩
theorem QO (hs:aw P hint sh Γ Pu H I) {t:TypeId} {x:TV} {x':Value} (h:KW P H t x K=some r) (hx:GR Γ Pu I x x'):Good P hint sh K r Γ Pu H I (aq (Iv.valOf I (eD P I t x'))):=by
 unfold KW at h;split at h
 ·rename_i e id hu
  split at h
  ·rename_i et e' no net ne xs em ho hg
   cases hx with |all hl hv=>
   obtain ⟨l',hl',ho⟩:=hs.obj _ _ hg;cases hl.symm.trans hl';obtain ⟨a,c,rfl,_⟩:=hv.some;have h1:=ho.1;simp only [eD,hu,Iv.valOf,aq,h1];exact Good.same hs h (.int _ _)
  ·exact KB hs h hx
 ·exact KB hs h hx
theorem uR {t:TypeId} {e:Sh} {xs:List e.ty} {nl:Option Bool} {cl:Bool} {ix:TV}:fq dW P sh H t (.aC e xs nl cl) ix K=fe dW P sh H t (.aC e xs nl cl) ix K:=by
 unfold fq;split
 ·rename_i h;cases h
 ·rfl
theorem yx (hs:aw P hint sh Γ Pu H I) {t:TypeId} {x ix:TV} {x' ix':Value} (h:fq dW P sh H t x ix K=some r) (hx:GR Γ Pu I x x') (hi:GR Γ Pu I ix ix'):Good P hint sh K r Γ Pu H I (aq (br P I t x' ix')):=by
 unfold fq at h;split at h
 ·rename_i e id _ i hu
  split at h
  ·rename_i inf et s no net ne xs em ho hinf hg
   cases hi;cases hx with |all hl hv=>
   replace h:=ae h;obtain ⟨hb,h⟩:=h;replace h:=aE h;obtain ⟨hc,h⟩:=h;replace hc:=af hc;obtain ⟨hc1,hc2⟩:=hc;have c1:=bh hc1;have c2:=lD hc2;obtain ⟨l',hl',ho⟩:=hs.obj _ _ hg;cases hl.symm.trans hl';have h1:=ho.1;have h2:=ho.2.1;have hlt:i.toNat<xs.length:=by omega
   unfold fT at hv;split at hv
   ·rw [h1] at hv;omega
   ·rename_i b o hp
    obtain ⟨cap,rfl,_⟩:=hv;have:=GR.jd (Γ:=Γ) (Pu:=Pu) (I:=I) (i:=i.toNat) (off:=0) hl hp;rw [Nat.add_zero,h2,beq_true hb] at this;simp only [br,hu,hinf,h1,oO c1 hlt,if_true,aq,Nat.zero_mul,Nat.add_zero];exact Good.same hs h this
  ·exact nH hs h hx hi
 ·exact nH hs h hx hi
theorem UH (hs:aw P hint sh Γ Pu H I) {t:TypeId} {id i off:Nat} {a':Value} (h:Wk dW H id i off K=some r) (hag:eK P t=some false) (ha:GR Γ Pu I (.jd id i off) a'):Good P hint sh K r Γ Pu H I (aq (dy P I t a')):=by
 unfold Wk at h;cases ha with |jd hl hp=>
 split at h
 ·rename_i et e no net ne xs em hg
  replace h:=ae h;obtain ⟨hb,h⟩:=h;replace h:=eM h;obtain ⟨x,hx,h⟩:=h;have:=beq_true hb;subst this;obtain ⟨vs,f,ex,v,l',q1,q2,q3,q4,q5⟩:=hs.Ys hg hl hx hp;have hld:∀ o,vs[o]? =some v->iS P I t _ o=some v:=fun o ho=>by unfold iS;rw [hag];simp only;rw [q1];exact ho
  simp only [dy,hld _ q2,aq];exact ⟨_,_,_,_,_,_,h,rfl,q3,q4,q5⟩
 ·cases h
theorem JR {t:TypeId} {cs:List TV}:mc dW P sh H t (.oC cs) K=nB dW P H t (.oC cs) K:=by
 unfold mc;split<;>rfl
theorem L5 (hs:aw P hint sh Γ Pu H I) {t:TypeId} {a:TV} {a':Value} (h:mc dW P sh H t a K=some r) (ha:GR Γ Pu I a a'):Good P hint sh K r Γ Pu H I (aq (dy P I t a')):=by
 unfold mc at h;split at h
 ·exact vK hs h ha
 ·split at h
  ·rename_i id i off
   split at h
   ·rename_i no _
    cases hb:(O5 P t &&Nat.beq off no) with
    |true=>
     rw [hb] at h;simp only [zac] at h;split at h
     ·rename_i hag
      obtain ⟨s1,e1⟩:=mZ hs id;exact (UH s1 h hag ha).after hs s1 e1
     ·cases h
    |false=>
     rw [hb] at h;exact Mx hs h ha
   ·exact vK hs h ha
  ·exact vK hs h ha
theorem Ql (hs:aw P hint sh Γ Pu H I) {t:TypeId} {id i off m:Nat} {inf:TypeInfo} {a' x':Value} (h:PK dW H id i m K=some r) (hno:CL H id=some off) (hi:P.info? t=some inf) (hsz:inf.size=1) (ha:GR Γ Pu I (.jd id i off) a') (hx:GR Γ Pu I (.all m) x'):Good P hint sh K r Γ Pu H I (aq (bW P I t a' x')):=by
 unfold PK at h;cases ha with |jd hl hp=>
 rename_i b o l;split at h
 ·rename_i et e no net ne xs em ho net' ne' ys em' hg hgm
  have hno':no=off:=by unfold CL at hno;rw [hg] at hno;exact Option.some.inj hno
  subst hno';replace h:=ae h;obtain ⟨hb,h⟩:=h;have:=beq_true hb;subst this;split at h
  ·rename_i hh _
   subst hh;replace h:=aE h;obtain ⟨hem0,h⟩:=h;have hem:em'= .ex∨ys≠ []:=by
    cases em' with
    |ex=>exact .inl rfl
    |_=>right;rintro rfl;cases hem0
   cases hx with |all hlm hv=>
   obtain ⟨l1,hl1,hN⟩:=hs.obj id _ hg;cases hl.symm.trans hl1;have hone:x'.cells.toList= [x']:=kh (GR.one (Γ:=Γ) (Pu:=Pu) (I:=I) (.all hlm hv) rfl);have hxs:∃ x,xs[i]? =some x/\(∀ j n y,ho=some (j,n,y)->j=i)/\K .undef ((H.del m).put id (.nest et e no net' ne' (xs.set i (du e no ne' x ys)) em none))=some r:=by
    split at h
    ·obtain ⟨x,h1,h2⟩:=eM h
     exact ⟨x,h1,fun _ _ _ h=>(by cases h),h2⟩
    ·rename_i j n x
     replace h:=ae h;obtain ⟨_,h⟩:=h;replace h:=aE h;obtain ⟨hj,h⟩:=h;have:=beq_true hj;subst this;have hN':bH Γ Pu I l et e no net' ne' xs em (some (i,n,x)):=hN;obtain ⟨_,_,_,_,h5 |⟨_,_,_,_,_,_,_,_,_,_,_,_,_,_,hh,_⟩⟩:=hN'
     ·cases h5.2.2.2
     ·exact ⟨x,(hh i n x rfl).1,fun _ _ _ h=>(by cases h;rfl),h⟩
   obtain ⟨x,hxi,hho,hK⟩:=hxs;have hN':bH Γ Pu I l et e no net' ne' xs em ho:=hN;obtain ⟨h1,h2,h3,h4,h5 |⟨b0,o0,vs,f,ex,hp0,he,hgb,ht,hlen,hro,hf,hrest⟩⟩:=hN'
   ·rw [h5.1] at hp;cases hp
   cases hp.symm.trans hp0;obtain ⟨hnlt,_⟩:=eJ h4;have hil:i<xs.length:=(List.getElem?_eq_some_iff.1 hxi).1;have hcell:o+i*e.sz+no<vs.length:=by
    have:(i+1)*e.sz<=xs.length*e.sz:=Nat.mul_le_mul_right _ hil;rw [zag,Nat.one_mul] at this;omega
   have hst:=iN (off:=o+i*l.sz+no) (vs:=x'.cells.toList) hgb hro (by omega) (by rw [hone,h2];exact hcell) (by rw [hone];simp only [List.all_cons,List.all_nil,Bool.and_true];exact GR.one (Γ:=Γ) (Pu:=Pu) (I:=I) (.all hlm hv) rfl) (by rw [hone];simp);have hsz':x'.cells.size=inf.size:=by rw [←Array.length_toList,hone,hsz];rfl
   simp only [bW,gH,hi,if_pos hsz',hst,aq];obtain ⟨q1,q2⟩:=hs.XH (I':=I.put b (.cells (ay vs (o+i*l.sz+no) x'.cells.toList) et f ex false)) hg hl hgm hem hlm hxi hho hv hp hgb (by rw [IH.ah,if_pos rfl,hone,h2];rfl) (fun b' hb'=>by rw [IH.ah,if_neg hb']) rfl;exact ⟨_,_,_,_,_,_,hK,rfl,.undef _,q1,q2⟩
  ·cases h
 ·cases h
end
end Go.Gv
/- Lists whose elements hold lists: an element's other cells are written. -/
namespace Go.Gv
open Go Go.Iv
section
variable {β:Type} {P:Program} {hint:Hint} {sh:cA} {Γ Γ1 Γ':bc} {Pu Pu1:Nat->Prop} {H H1:GH} {I I1 I':IH} {K:TV->GH->Option β} {r:β}
def M0:TV->Bool
 | .int _ _ | .byte _ | .bool _ | .str _ | .aC _ _ none false=>true
 |_=>false
theorem Uz:∀ {e:Sh} (x:e.ty),(e.de x).all M0=true:=by
 intro e
 induction e with
 |cons a b iha ihb=>intro x;simp only [Sh.de,List.all_append,iha x.1,ihb x.2,Bool.and_true]
 |_=>intro x;rfl
theorem JE {t:TV} (h:wF t=true):M0 t=true:=by cases t<;>first |rfl |cases h
theorem Gj:∀ {ts l:List TV} {o:Nat},l.all M0=true->ts.all wF=true->(dY l o ts).all M0=true:=by
 intro ts
 induction ts with
 |nil=>intro l o h _;exact h
 |cons t ts ih=>
  intro l o h k;simp only [List.all_cons,zae] at k;refine ih ?_ k.2;rw [List.all_eq_true] at h ⊢;intro x hx;rcases List.mem_or_eq_of_mem_set hx with h1 |h1
  ·exact h x h1
  ·rw [h1];exact JE k.1
theorem VK:∀ {s:Sh} {l q:List TV} {x:s.ty},s.of l=some (x,q)->l.all M0=true->l=s.de x++q:=by
 intro s
 induction s with
 |int k=>
  intro l q x h hc;simp only [Sh.of] at h;unfold ofInt at h;split at h
  ·split at h
   ·rename_i hk;subst hk;cases h;rfl
   ·cases h
  ·cases h
 |byte=>intro l q x h hc;simp only [Sh.of] at h;unfold BU at h;split at h<;>cases h;rfl
 |bool=>intro l q x h hc;simp only [Sh.of] at h;unfold ofBool at h;split at h<;>cases h;rfl
 |str=>intro l q x h hc;simp only [Sh.of] at h;unfold ofStr at h;split at h<;>cases h;rfl
 |cons a b iha ihb=>
  intro l q x h hc;simp only [Sh.of] at h;split at h
  ·rename_i y l1 h1
   split at h
   ·rename_i z l2 h2
    cases h;have e1:=iha h1 hc;subst e1;rw [List.all_append,zae] at hc;have e2:=ihb h2 hc.2;subst e2;simp only [Sh.de,List.append_assoc]
   ·cases h
  ·cases h
 |aJ e ih=>
  intro l q x h hc;simp only [Sh.of] at h;unfold An at h;split at h
  ·rename_i e' xs nl cl r'
   split at h
   ·rename_i hh hs
    subst hh;cases h;simp only [List.all_cons,zae] at hc;cases nl with
    |some b=>cases hc.1
    |none=>cases cl with
     |true=>cases hc.1
     |false=>rfl
   ·cases h
  ·simp only [List.all_cons,zae] at hc;cases hc.1
  ·cases h
theorem Nc {s:Sh} {l:List TV} {x:s.ty} (h:s.jj l=some x) (hc:l.all M0=true):s.de x=l:=by
 unfold Sh.jj at h;split at h
 ·rename_i y heq
  cases h;have:=VK heq hc;rw [List.append_nil] at this;exact this.symm
 ·cases h
theorem fb:∀ (vs bs:List Value) (o k:Nat),(k<o∨o+vs.length<=k)->(ay bs o vs)[k]? =bs[k]? :=by
 intro vs
 induction vs with
 |nil=>intro bs o k _;rfl
 |cons v vs ih=>
  intro bs o k h;simp only [ay];simp only [zad] at h;rw [ih _ (o+1) k (by omega),List.getElem?_set_ne (by omega)]
theorem Fh:∀ (vs bs:List TV) (o k:Nat),(k<o∨o+vs.length<=k)->(dY bs o vs)[k]? =bs[k]? :=by
 intro vs
 induction vs with
 |nil=>intro bs o k _;rfl
 |cons v vs ih=>
  intro bs o k h;simp only [dY];simp only [zad] at h;rw [ih _ (o+1) k (by omega),List.getElem?_set_ne (by omega)]
theorem Ft:∀ (vs bs:List TV) (o k:Nat) (t:TV),(k<o∨o+vs.length<=k)->(dY bs o vs).set k t=dY (bs.set k t) o vs:=by
 intro vs
 induction vs with
 |nil=>intro bs o k t _;rfl
 |cons v vs ih=>
  intro bs o k t h;simp only [dY];simp only [zad] at h;rw [ih _ (o+1) k t (by omega),List.set_comm _ _ (by omega)]
theorem bK.plain:∀ {l:List TV} {vs:List Value},l.all wF=true->bK Γ Pu I l vs->bK Γ' Pu1 I' l vs:=by
 intro l vs h;refine bK.flat ?_;rw [List.all_eq_true] at h ⊢;intro t ht;have:=h t ht;cases t<;>first |rfl |cases this
theorem Iu (hs:aw P hint sh Γ Pu H I) {t:TypeId} {id i off no:Nat} {inf:TypeInfo} {ts:List TV} {a' x':Value} (h:Dw dW H id i off ts K=some r) (hpl:ts.all wF=true) (hi:P.info? t=some inf) (hsz:x'.cells.size=inf.size) (ha:GR Γ Pu I (.jd id i off) a') (hx:bK Γ Pu I ts x'.cells.toList):Good P hint sh K r Γ Pu H I (aq (bW P I t a' x')):=by
 unfold Dw at h;cases ha with |jd hl hp=>
 rename_i b o l;split at h
 ·rename_i et e no net ne xs em hg
  obtain ⟨x,hxi,h⟩:=eM h;replace h:=ae h;obtain ⟨hc,h⟩:=h;replace hc:=af hc;obtain ⟨hc,hc3⟩:=hc;replace hc:=af hc;obtain ⟨hc1,hc2⟩:=hc;have hle:=aB hc2;have hfar:no<off∨off+ts.length<=no:=by
   rw [Bool.or_eq_true] at hc1;rcases hc1 with h1 |h1
   ·exact .inr (aB h1)
   ·exact .inl (cf h1)
  split at h
  ·rename_i y hy
   have hty:=Nc hy (Gj (Uz x) hpl);obtain ⟨l1,hl1,hN⟩:=hs.obj id _ hg;cases hl.symm.trans hl1;have hN':bH Γ Pu I l et e no net ne xs em none:=hN;obtain ⟨h1,h2,h3,h4,h5 |⟨b0,o0,vs,f,ex,hp0,he,hgb,ht,hlen,hro,hf,hE,hy2,hh,hd,hself⟩⟩:=hN'
   ·rw [h5.1] at hp;cases hp
   cases hp.symm.trans hp0;obtain ⟨hnlt,hok⟩:=eJ h4;have hil:i<xs.length:=(List.getElem?_eq_some_iff.1 hxi).1;have hrow:o+i*e.sz+e.sz<=vs.length:=by
    have:(i+1)*e.sz<=xs.length*e.sz:=Nat.mul_le_mul_right _ hil;rw [zag,Nat.one_mul] at this;omega
   have hvl:=hx.length;have hone:x'.cells.toList.all Iv.one=true:=hx.BM (by
    rw [List.all_eq_true] at hpl ⊢;intro t ht;have:=hpl t ht;cases t<;>first |rfl |cases this)
   have hne:x'.cells.toList≠ []:=by
    intro hc;rw [hc] at hvl;rw [List.eq_nil_of_length_eq_zero hvl.symm] at hc3;cases hc3
   have hst:=iN (off:=o+i*l.sz+off) (vs:=x'.cells.toList) hgb hro (by omega) (by rw [h2];omega) hone hne;simp only [bW,gH,hi,if_pos hsz,hst,aq];rw [h2];generalize x'.cells.toList=ws at*;have hfarW:∀ j,(o+j*e.sz+no<o+i*e.sz+off∨o+i*e.sz+off+ws.length<=o+j*e.sz+no):=by
    intro j;rw [hvl];rcases Nat.lt_trichotomy j i with h |h |h
    ·have:(j+1)*e.sz<=i*e.sz:=Nat.mul_le_mul_right _ h
     rw [zag,Nat.one_mul] at this;omega
    ·subst h;omega
    ·have:(i+1)*e.sz<=j*e.sz:=Nat.mul_le_mul_right _ h
     rw [zag,Nat.one_mul] at this;omega
   have cell:∀ j,(ay vs (o+i*e.sz+off) ws)[o+j*e.sz+no]? =vs[o+j*e.sz+no]? :=fun j=>fb _ _ _ _ (hfarW j)
   have hnp:¬ Pu b:=hs.sep b (.pos hg rfl hl hp);have hgI:∀ b',b'≠b->(I.put b (.cells (ay vs (o+i*e.sz+off) ws) et f ex false)).get b'=I.get b':=fun b' hb'=>by rw [IH.ah,if_neg hb']
   have k:cH Γ Pu I Γ Pu (I.put b (.cells (ay vs (o+i*e.sz+off) ws) et f ex false)):=⟨fun _ _ h=>h,fun _ h=>h,fun b' hb'=>hgI b' (by rintro rfl;exact hnp hb')⟩;have nb:∀ b' j,NB (I.put b (.cells (ay vs (o+i*e.sz+off) ws) et f ex false)) l e.sz no none b' j->NB I l e.sz no none b' j:=by
    rintro b' j ⟨n0,n2,b2,o2,vs2,et2,f2,ex2,sd2,hp2,hg2,hv2⟩;cases hp.symm.trans hp2;rw [IH.ah,if_pos rfl] at hg2;cases hg2;rw [cell] at hv2;exact ⟨n0,n2,b,o,vs,et,f,ex,false,hp,hgb,hv2⟩
   have hng:aY e no ne y=aY e no ne x:=by
    have a1:=(hok y).1;rw [hty,Fh _ _ _ _ hfar,(hok x).1] at a1;have a2:=Option.some.inj a1;injection a2 with _ a3
    exact a3.symm
   have hor:OR P hint Γ Pu (I.put b (.cells (ay vs (o+i*e.sz+off) ws) et f ex false)) l (.nest et e no net ne (xs.set i y) em none):=by
    refine ⟨by rw [h1];simp,h2,h3,h4,.inr ⟨b,o,_,f,ex,hp,fun hem hc=>he hem (by have:=congrArg List.length hc;rw [List.length_set] at this;exact List.eq_nil_of_length_eq_zero this),by rw [IH.ah,if_pos rfl],by rw [bf];exact ht,by rw [bf,List.length_set];exact hlen,hro,hf,?_,?_,(fun _ _ _ h=>by cases h),fun j k b' n1 n2=>hd j k b' (nb b' j n1) (nb b' k n2),fun j n1=>hself j (nb b j n1)⟩⟩
    ·intro j z hz
     by_cases hij:j=i
     ·subst hij
      rw [List.getElem?_set_self hil] at hz;cases hz;rw [sK,sV,hty,Ft _ _ _ _ _ hfar];exact (bK.plain hpl hx).ay ((hE j x hxi).mono k) off
     ·rw [List.getElem?_set_ne (Ne.symm hij)] at hz
      rw [ku]
      ·exact (hE j z hz).mono k
      ·rcases Nat.lt_or_gt_of_ne hij with hlt |hgt
       ·left
        have:(j+1)*e.sz<=i*e.sz:=Nat.mul_le_mul_right _ hlt;rw [zag,Nat.one_mul] at this;omega
       ·right
        have:(i+1)*e.sz<=j*e.sz:=Nat.mul_le_mul_right _ hgt;rw [zag,Nat.one_mul] at this;omega
    ·intro j z w hz _ hw
     rw [cell] at hw;have hz2:∃ z0,xs[j]? =some z0/\aY e no ne z=aY e no ne z0:=by
      by_cases hij:j=i
      ·subst hij
       rw [List.getElem?_set_self hil] at hz;cases hz;exact ⟨x,hxi,hng⟩
      ·rw [List.getElem?_set_ne (Ne.symm hij)] at hz
       exact ⟨z,hz,rfl⟩
     obtain ⟨z0,hz0,hze⟩:=hz2;obtain ⟨l',a1,a2⟩:=hy2 j z0 w hz0 (by simp) hw;rw [hze];refine ⟨l',a1.mono k.p k.i fun b' y' hp'=>hgI b' ?_,a2⟩;rintro rfl;exact hself j ⟨by simp,by rw [h1];exact (List.getElem?_eq_some_iff.1 hz0).1,b',o,vs,et,f,ex,false,hp,hgb,by rw [hw];exact na a2 hp'⟩
   obtain ⟨s2,e2⟩:=hs.hX hg rfl hl hp (.nest et e no net ne (xs.set i y) em none) (.cells (ay vs (o+i*e.sz+off) ws) et f ex false) hor
    (fun b' hb'=>by
     obtain ⟨j,hj⟩:=hb';have hat:At I l (.nest et e no net ne xs em none) b':= .inr ⟨j,nb b' j hj⟩;exact ⟨⟨id,_,l,hg,rfl,hl,hat⟩,fun id2 o2 l2 hne2 hg2 hm2 hl2 hat2=>hne2 (hs.inj id2 id o2 _ l2 l b' hg2 hg hm2 rfl hl2 hl hat2 hat)⟩)
   exact ⟨_,_,_,_,_,_,h,rfl,.undef _,s2,e2⟩
  ·cases h
 ·cases h
theorem Ib (hs:aw P hint sh Γ Pu H I) {t:TypeId} {a x:TV} {a' x':Value} (h:Cq dW P H t a x K=some r) (ha:GR Γ Pu I a a') (hx:GR Γ Pu I x x'):Good P hint sh K r Γ Pu H I (aq (bW P I t a' x')):=by
 unfold Cq at h;split at h
 ·rename_i id i off
  split at h
  ·rename_i no hno
   split at h
   ·rename_i inf hi
    replace h:=ae h;obtain ⟨hc,h⟩:=h;replace hc:=af hc;obtain ⟨hc1,hc2⟩:=hc;have hl:=beq_true hc1;cases hb:(Nat.beq off no &&Nat.beq x.cells.length 1) with
    |true=>
     rw [hb] at h;simp only [zac] at h;replace hb:=af hb;obtain ⟨hb1,hb2⟩:=hb;have:=beq_true hb1;subst this;split at h
     ·exact Ql hs h hno hi (by rw [←hl];rfl) ha hx
     ·cases h
    |false=>
     rw [hb] at h;simp only [zab] at h;replace h:=ae h;obtain ⟨hpl,h⟩:=h;obtain ⟨s1,e1⟩:=mZ hs id;have hc:=hx.cells hc2;have hsz:x'.cells.size=inf.size:=by rw [←Array.length_toList,hc.length,hl]
     exact (Iu (no:=no) s1 h hpl hi hsz ha hc).after hs s1 e1
   ·cases h
  ·exact BA hs h ha hx
 ·exact BA hs h ha hx
end
end Go.Gv
/- Lists whose elements hold lists: new ones. -/
namespace Go.Gv
open Go Go.Iv
section
variable {β:Type} {P:Program} {hint:Hint} {sh:cA} {Γ Γ1 Γ':bc} {Pu Pu1:Nat->Prop} {H H1:GH} {I I1 I':IH} {K:TV->GH->Option β} {r:β}
theorem G7 (hs:aw P hint sh Γ Pu H I) {e net:TypeId} {s ne:Sh} {no:Nat} {xs:List s.ty} {cs:List Value} (hok:HW s no ne=true) (hlen:cs.length=xs.length*s.sz) (hrow:Row Pu I s xs cs 0)
  (hnil:∀ i x,xs[i]? =some x->aY s no ne x= []/\cs[i*s.sz+no]? =some (.slice none 0 0)) (cap:Nat) (hcap:iY cap s.sz xs.length 0 cs.length):
  aw P hint sh (Γ.up H.n ⟨some (I.n,0),xs.length,s.sz,cs.length⟩) Pu (H.new (.nest e s no net ne xs .no none)) (I.new (.cells cs e 0 true false))/\
   Ex (bx Γ H I) Γ Pu H I (Γ.up H.n ⟨some (I.n,0),xs.length,s.sz,cs.length⟩) Pu (H.new (.nest e s no net ne xs .no none)) (I.new (.cells cs e 0 true false))/\
   GR (Γ.up H.n ⟨some (I.n,0),xs.length,s.sz,cs.length⟩) Pu (I.new (.cells cs e 0 true false)) (.all H.n) (.slice (some ⟨I.n,0,none⟩) xs.length cap):=by
 have hk:=jW hs ⟨some (I.n,0),xs.length,s.sz,cs.length⟩ (.cells cs e 0 true false);have hnb:∀ b i,¬ NB (I.new (.cells cs e 0 true false)) ⟨some (I.n,0),xs.length,s.sz,cs.length⟩ s.sz no none b i:=by
  rintro b i ⟨_,n2,b2,o2,vs2,et2,f2,ex2,sd2,hp2,hg2,hv2⟩;cases hp2;rw [IH.az,if_pos rfl] at hg2;cases hg2;rw [Nat.zero_add,(hnil i _ (zaj n2)).2] at hv2;cases hv2
 obtain ⟨s1,e1⟩:=hs.new (.nest e s no net ne xs .no none) (.cells cs e 0 true false) ⟨some (I.n,0),xs.length,s.sz,cs.length⟩ 0 rfl
  ⟨rfl,rfl,s.dU,hok,.inr ⟨I.n,0,cs,0,true,rfl,(fun h=>by cases h),by rw [IH.az,if_pos rfl],rfl,by omega,hs.ro,zai _,
   fun i x hi=>by
    have h1:=(hrow i x hi).de (Γ:=Γ);have h2:=h1.set no (GR.undef (Γ:=Γ) (Pu:=Pu) (I:=I) ((cs.drop (0+i*s.sz)).take s.sz)[no]!);have:((cs.drop (0+i*s.sz)).take s.sz).set no ((cs.drop (0+i*s.sz)).take s.sz)[no]! =(cs.drop (0+i*s.sz)).take s.sz:=by
     have hl:=h1.length;rw [jf] at hl;have hlt:=(eJ hok).1;apply iT;rw [zaj (by omega),getElem!_pos _ _ (by omega)]
    rw [this] at h2;exact h2.mono hk,
   fun i x v hi _ hv=>by
    obtain ⟨a1,a2⟩:=hnil i x hi;rw [Nat.zero_add,a2] at hv;cases hv;exact ⟨⟨none,0,ne.sz,0⟩,⟨by rw [a1];rfl,rfl,ne.dU,.inl ⟨rfl,a1,by simp⟩⟩,rfl,rfl⟩,
   (fun _ _ _ h=>by cases h),fun i j b n1 _=>absurd n1 (hnb b i),fun i n1=>hnb _ i n1⟩⟩
  (fun b ⟨i,hi⟩=>hnb b i hi)
 refine ⟨s1,e1,.all (l:=⟨some (I.n,0),xs.length,s.sz,cs.length⟩) (by simp [bc.up]) ?_⟩;exact ⟨cap,by simp,by simpa using hcap⟩
theorem ry {l:List TV} {vs:List Value} {i:Nat} (h:Cg l[i]? =true) (hr:bK Γ Pu I l vs):vs[i]? =some (.slice none 0 0):=by
 unfold Cg at h;split at h
 ·rename_i heq
  obtain ⟨v,h1,h2⟩:=hr.get heq;rw [h1,VM h2]
 ·cases h
theorem AQ {no sz:Nat}:∀ {n:Nat} {l:List TV} {vs:List Value},Cu no sz n l=true->bK Γ Pu I l vs->∀ i,i<n->vs[i*sz+no]? =some (.slice none 0 0):=by
 intro n
 induction n with
 |zero=>intro l vs _ _ i hi;omega
 |succ n ih=>
  intro l vs h hr i hi;unfold Cu at h;replace h:=af h;cases i with
  |zero=>rw [Nat.zero_mul,Nat.zero_add];exact ry h.1 hr
  |succ i=>
   have:=ih h.2 (hr.drop sz) i (by omega);rw [List.getElem?_drop] at this;rw [←this]
   congr 1
   rw [zag,Nat.one_mul];omega
theorem Hr {z:List Value}:∀ {n i k:Nat},i<n->k<z.length->(dx z n)[i*z.length+k]? =z[k]? :=by
 intro n
 induction n with
 |zero=>intro i k h;omega
 |succ n ih=>
  intro i k hi hk;unfold dx;cases i with
  |zero=>rw [Nat.zero_mul,Nat.zero_add,List.getElem?_append_left hk]
  |succ i=>
   rw [List.getElem?_append_right (by rw [zag,Nat.one_mul];omega),←ih (i:=i) (by omega) hk]
   congr 1
   rw [zag,Nat.one_mul];omega
theorem wC (hs:aw P hint sh Γ Pu H I) {t:TypeId} {eq:Bool} {l c:TV} {l' c':Value} (h:gK dW P sh H t eq l c K=some r) (hl:GR Γ Pu I l l') (hc:GR Γ Pu I c c') (heq:eq=true->l=c):Good P hint sh K r Γ Pu H I (aq (bg P I t l' c')):=by
 unfold gK at h;split at h
 ·exact zE hs h hl hc heq
 ·rename_i no net _
  split at h
  ·rename_i e i l c he
   cases hl;cases hc;split at h
   ·rename_i z s ne hz hsh hne
    replace h:=ae h;obtain ⟨hb,h⟩:=h;replace hb:=af hb;obtain ⟨hb,hb5⟩:=hb;replace hb:=af hb;obtain ⟨hb,hok⟩:=hb;replace hb:=af hb;obtain ⟨hb,hb3⟩:=hb;replace hb:=af hb;obtain ⟨hb1,hb2⟩:=hb;have k1:=beq_true hb1;have k3:=beq_true hb3;split at h
    ·rename_i zz hzz
     replace h:=ae h;obtain ⟨hz0,h⟩:=h;replace hz0:=af hz0;obtain ⟨hz1,hz2⟩:=hz0;replace h:=aE h;obtain ⟨hn,h⟩:=h;replace hn:=af hn;obtain ⟨hn,hn3⟩:=hn;replace hn:=af hn;obtain ⟨hn1,hn2⟩:=hn;have n1:=bh hn1;have n2:=bh hn2;have n3:=bh hn3;have hzr:=dj (Γ:=Γ) (Pu:=Pu) (I:=I) hb2;have henc:=Sh.eg hzz hzr;obtain ⟨q1,q2⟩:=pD henc c.toNat;have hsz:=s.dU;have hcu:c.toNat<eE:=by
      have:c<=c*((i.bytes:Int)+1):=by
       have h0:0<=c:=by omega
       have:c*1<=c*((i.bytes:Int)+1):=Int.mul_le_mul_of_nonneg_left (by omega) h0;omega
      unfold eE;have h1:(roomy:Int)<2^64:=by unfold roomy;decide
      have h2:(2:Int)^64=((2^64:Nat):Int):=by decide
      omega
     have hzl:z.cells.toList.length=s.sz:=henc.len
     obtain ⟨s2,e2,r2⟩:=G7 hs (e:=e) (net:=net) (xs:=List.replicate c.toNat zz) (cs:=dx z.cells.toList c.toNat) hok (by rw [List.length_replicate];exact q1) q2
      (fun j x hx=>by
       rw [List.getElem?_replicate] at hx;split at hx
       ·rename_i hj
        cases hx;refine ⟨List.isEmpty_iff.1 hz1,?_⟩;rw [←hzl,Hr hj (by rw [hzl];exact (eJ hok).1)];exact ry hz2 hzr
       ·cases hx)
      c.toNat (.inr ⟨hcu,by simp,by rw [q1];omega⟩)
     have hev:bg P I t (.int .i64 l) (.int .i64 c)=some (.val (.slice (some ⟨I.n,0,none⟩) l.toNat c.toNat) (bI I e (dx z.cells.toList c.toNat))):=by
      simp only [bg,he,hz];rw [if_pos (by simp [n1,n2];exact n3),if_pos k1]
     rw [hev];simp only [aq];have:=heq hb5;cases this;rw [List.length_replicate] at r2 s2 e2;exact ⟨_,_,_,_,_,_,h,rfl,r2,s2,e2⟩
    ·cases h
   ·cases h
  ·cases h
theorem uN (hs:aw P hint sh Γ Pu H I) {t:TypeId} {len:Nat} {ps:List (Nat×TV)} {ps':List (Nat×Value)} (h:fD P sh H t len ps K=some r) (hp:HF Γ Pu I ps ps'):Good P hint sh K r Γ Pu H I (aq (aW P I t len ps')):=by
 unfold fD at h;split at h
 ·exact lJ hs h hp
 ·rename_i no net _
  split at h
  ·rename_i e i he
   by_cases hz:(Nat.beq len 0 &&(AH sh.gZ (e+1000000)).isSome ||Q4 no ps)=true
   ·rw [hz,zac] at h
    exact lJ hs h hp
   rw [eq_false_of_ne_true hz,zab] at h;replace h:=ae h;obtain ⟨hb,h⟩:=h;replace hb:=af hb;obtain ⟨hb1,hb2⟩:=hb;split at h
   ·rename_i z s ne hz hsh hne
    replace h:=ae h;obtain ⟨hc,h⟩:=h;replace hc:=af hc;obtain ⟨hc,hok⟩:=hc;replace hc:=af hc;obtain ⟨hc,hc3⟩:=hc;replace hc:=af hc;obtain ⟨hc1,hc2⟩:=hc;have k1:=beq_true hc1;have k3:=beq_true hc3;split at h
    ·rename_i cells hf
     obtain ⟨vs',hf',hr'⟩:=iB (vs:=⟨dx z.cells.toList len⟩) hf hb2 hp (qn (dj hc2) len);split at h
     ·rename_i cells' H1 hpl
      obtain ⟨Pu1,s1,e1,r1⟩:=gB hs hpl hr';split at h
      ·rename_i xs hx
       replace h:=ae h;obtain ⟨hn,h⟩:=h;replace hn:=af hn;obtain ⟨hn1,hn2⟩:=hn;obtain ⟨a1,a2,a3⟩:=mV hx r1;have hsz:=s.dU;have a2':vs'.toList.length=xs.length*s.sz:=by rw [a1];exact a2
       have hlu:len<eE:=by
        have:=aB hb1;have h2:len<=len*(i.size+1):=Nat.le_mul_of_pos_right _ (by omega);unfold eE;have:(2:Nat)^24<2^64:=by decide
        omega
       obtain ⟨s2,e2,r2⟩:=G7 s1 (e:=e) (net:=net) (xs:=xs) (cs:=vs'.toList) hok a2' a3
        (fun j x hj=>by
         refine ⟨List.isEmpty_iff.1 ?_,AQ hn2 r1 j (by rw [←a1];exact (List.getElem?_eq_some_iff.1 hj).1)⟩;rw [List.all_eq_true] at hn1;exact hn1 x (List.mem_of_getElem? hj))
        len (.inr ⟨hlu,by omega,by rw [a2];omega⟩)
       have:aW P I t len ps'=some (.val (.slice (some ⟨I.n,0,none⟩) len len) (bI I e vs'.toList)):=by
        simp only [aW,he,hz];rw [if_pos (by simp [hp.ok hb2];exact aB hb1),if_pos k1,hf']
       rw [this];rw [a1] at r2 s2 e2;simp only [aq];exact ⟨_,_,_,_,_,_,h,rfl,r2,s2,Ex.trans hs s1 e1 e2⟩
      ·cases h
     ·cases h
    ·cases h
   ·cases h
  ·cases h
end
end Go.Gv
/- Lists whose elements hold lists: elements without lists are appended. -/
namespace Go.Gv
open Go Go.Iv
section
variable {β:Type} {P:Program} {hint:Hint} {sh:cA} {Γ Γ1 Γ':bc} {Pu Pu1:Nat->Prop} {H H1:GH} {I I1 I':IH} {K:TV->GH->Option β} {r:β}
theorem om:∀ (bs:List Value) (o:Nat) (vs:List Value),(ay bs o vs).length=bs.length:=by
 intro bs o vs
 induction vs generalizing bs o with
 |nil=>rfl
 |cons v r ih=>show (ay (bs.set o v) (o+1) r).length=_;rw [ih,List.length_set]
theorem NS:∀ (vs bs:List Value) (o k:Nat),k<vs.length->o+vs.length<=bs.length->(ay bs o vs)[o+k]? =vs[k]? :=by
 intro vs
 induction vs with
 |nil=>intro bs o k h;simp at h
 |cons v r ih=>
  intro bs o k h hl;simp only [zad] at h hl
  show (ay (bs.set o v) (o+1) r)[o+k]? =_
  cases k with
  |zero=>
   rw [fb r _ _ _ (.inl (by omega)),Nat.add_zero,List.getElem?_set_self (by omega)];rfl
  |succ k=>
   rw [show o+(k+1)=o+1+k by omega,ih (bs.set o v) (o+1) k (by omega) (by simp;omega)];rfl
theorem NW {e:TypeId} {b off len cap n size bytes f:Nat} {ex:Bool} {vs cs:List Value} (hg:I.get b=some (.cells vs e f ex false)) (hro:dO<=b) (hf:f<=off) (hle:off+len*size<=vs.length) (hcap:iY cap size len off vs.length) (hn:n≠0) (hcs:cs.length=n*size) (hsz:0<size)
  (hones:cs.all Iv.one=true) (hroom:(len+n)*(bytes+1)<=roomy) (hfr:∀ b,I.n<=b->I.get b=none):
  ∃ B o' io f' ex' cap' I',gI I e size bytes n cs (.slice (some ⟨b,off,none⟩) len cap)=some (.val (.slice (some ⟨B,o',none⟩) (len+n) cap') I')/\I'.get B=some (.cells io e f' ex' false)/\(io.drop o').take ((len+n)*size)=(vs.drop off).take (len*size)++cs/\f'<=o'/\o'+(len+n)*size<=io.length/\
   iY cap' size (len+n) o' io.length/\(B=b∨B=I.n)/\(∀ k,k<I.n->k≠b->I'.get k=I.get k)/\I.n<=I'.n/\∀ k,I'.n<=k->I'.get k=none:=by
 have hbn:b<I.n:=Nat.lt_of_not_le fun h=>by rw [hfr b h] at hg;cases hg
 have hold:((vs.drop off).take (len*size)).length=len*size:=by simp;omega
 have hmul:(len+n)*size=len*size+n*size:=Nat.add_mul ..;have hcsne:cs.isEmpty=false:=by
  cases cs with
  |nil=>simp at hcs;have:0<n*size:=Nat.mul_pos (by omega) hsz;omega
  |cons=>rfl
 simp only [gI,if_neg hn,c9,if_pos hroom];rcases hcap with hc |⟨hc1,hc2,hc3⟩
 ·subst hc
  rw [if_pos (Nat.le_add_right _ _)];simp only [hg];rw [if_pos (by simp [hro,hle];omega)];refine ⟨I.n,0,(vs.drop off).take (len*size)++cs,f - off,false,eE+size,_,rfl,?_,?_,by omega,?_,.inl rfl,.inr rfl,fun k hk hkb=>?_,Nat.le_succ _,fun k hk=>?_⟩
  ·rw [IH.az];exact if_pos rfl
  ·rw [List.drop_zero,List.take_of_length_le (by simp;omega)]
  ·simp only [zaf,hold,hcs];omega
  ·rw [IH.az,if_neg (by show ¬ k=I.n;omega),IH.cO,if_neg hkb]
  ·have hk':I.n+1<=k:=hk
   rw [IH.az,if_neg (by show ¬ k=I.n;omega),IH.cO];split
   ·rfl
   ·exact hfr k (by omega)
 ·rw [if_neg (by omega)]
  by_cases hfit:len+n<=cap
  ·rw [if_pos hfit]
   have hb2:(len+n)*size<=cap*size:=Nat.mul_le_mul_right _ hfit;have hst:I.dF b (off+len*size) cs=some (I.put b (.cells (ay vs (off+len*size) cs) e f ex false)):=by
    unfold IH.dF;rw [if_neg (by rw [hcsne];simp)];simp only [hg];rw [if_pos (by simp only [zae,decide_eq_true_eq];exact ⟨⟨⟨hro,by omega⟩,by omega⟩,hones⟩)]
   rw [hst];have hsl:(ay vs (off+len*size) cs).length=vs.length:=om ..;refine ⟨b,off,ay vs (off+len*size) cs,f,ex,cap,_,rfl,?_,?_,hf,?_,.inr ⟨hc1,hfit,by rw [hsl];exact hc3⟩,.inl rfl,fun k hk hkb=>?_,zai _,fun k hk=>?_⟩
   ·rw [IH.ah];exact if_pos rfl
   ·apply List.ext_getElem?
    intro k;rw [List.getElem?_take];split
    ·rename_i hk
     rw [List.getElem?_drop];by_cases hk2:k<len*size
     ·rw [fb cs vs _ _ (.inl (by omega)),List.getElem?_append_left (by omega),List.getElem?_take,if_pos hk2,List.getElem?_drop]
     ·rw [List.getElem?_append_right (by omega),hold]
      have:=NS cs vs (off+len*size) (k - len*size) (by omega) (by omega);rw [show off+len*size+(k - len*size)=off+k by omega] at this;exact this
    ·rw [List.getElem?_eq_none (by simp only [zaf,hold,hcs];omega)]
   ·rw [hsl];omega
   ·rw [IH.ah,if_neg hkb]
   ·rw [IH.ah,if_neg (by have:I.n<=k:=hk;omega)];exact hfr k hk
  ·rw [if_neg hfit]
   have hcells:(if len=0 then some [] else I.bq b off (len*size))=some ((vs.drop off).take (len*size)):=by
    by_cases h0:len=0
    ·rw [if_pos h0,h0];simp
    ·rw [if_neg h0]
     unfold IH.bq;simp only [hg];rw [if_pos hle]
   rw [hcells];refine ⟨I.n,0,(vs.drop off).take (len*size)++cs,0,false,eE+size,_,rfl,?_,?_,zai _,?_,.inl rfl,.inr rfl,fun k hk hkb=>?_,Nat.le_succ _,fun k hk=>?_⟩
   ·rw [IH.az];exact if_pos rfl
   ·rw [List.drop_zero,List.take_of_length_le (by simp;omega)]
   ·simp only [zaf,hold,hcs];omega
   ·rw [IH.az,if_neg (by omega)]
   ·have hk':I.n+1<=k:=hk
    rw [IH.az,if_neg (by omega)];exact hfr k (by omega)
theorem AM {io vs cs:List Value} {o o' L:Nat} {k:Nat} {n:Nat} (h:(io.drop o').take n=(vs.drop o).take L++cs) (hL:o+L<=vs.length) (hn:k<n):
  io[o'+k]? =if k<L then vs[o+k]? else cs[k - L]? :=by
 have h1:((io.drop o').take n)[k]? =io[o'+k]? :=by rw [List.getElem?_take,if_pos hn,List.getElem?_drop]
 have hl:((vs.drop o).take L).length=L:=by simp;omega
 rw [←h1,h];split
 ·rename_i hk
  rw [List.getElem?_append_left (by omega),List.getElem?_take,if_pos hk,List.getElem?_drop]
 ·rw [List.getElem?_append_right (by omega),hl]
theorem P4 {io vs:List Value} {a b n:Nat} (h:∀ j,j<n->io[a+j]? =vs[b+j]?):(io.drop a).take n=(vs.drop b).take n:=by
 apply List.ext_getElem?;intro k;rw [List.getElem?_take,List.getElem?_take];split
 ·rename_i hk;rw [List.getElem?_drop,List.getElem?_drop];exact h k hk
 ·rfl
theorem bH.app {l l':Loc} {et:TypeId} {e:Sh} {no:Nat} {net:TypeId} {ne:Sh} {xs ys:List e.ty} {em:Em} (h:bH Γ Pu I l et e no net ne xs em none) {b o f0:Nat} {et0:TypeId} {ex0 sd0:Bool} {vs cs:List Value} (hp:l.pos=some (b,o)) (hg:I.get b=some (.cells vs et0 f0 ex0 sd0))
  (hy:Row Pu I e ys cs 0) (hyl:cs.length=ys.length*e.sz) (hyn:∀ y∈ys,aY e no ne y= []) (hnil:∀ i,i<ys.length->cs[i*e.sz+no]? =some (.slice none 0 0)) (hne:ys≠ []) (hnesz:0<ne.sz)
  {B o' f':Nat} {ex':Bool} {io:List Value} (hpos:l'.pos=some (B,o')) (hgB:I'.get B=some (.cells io et f' ex' false)) (htot:io.length=l'.tot) (hlen':l'.len=xs.length+ys.length) (hsz':l'.sz=e.sz) (hle:o'+(xs.length+ys.length)*e.sz<=io.length) (hro:dO<=B) (hf:f'<=o')
  (hrow:(io.drop o').take ((xs.length+ys.length)*e.sz)=(vs.drop o).take (xs.length*e.sz)++cs) (hI:∀ c i,NB I l e.sz no none c i->I'.get c=I.get c) (hBn:∀ c i,NB I l e.sz no none c i->c≠B) (hk:cH Γ Pu I Γ' Pu I'):
  bH Γ' Pu I' l' et e no net ne (xs++ys) em none/\∀ c i,NB I' l' e.sz no none c i->NB I l e.sz no none c i:=by
 obtain ⟨h1,h2,h3,h4,h5 |⟨b1,o1,vs1,f1,ex1,hp1,he,hg1,ht,hle1,hro1,hf1,hx,hin,hh,hd,hself⟩⟩:=h
 ·rw [h5.1] at hp;cases hp
 ·cases hp.symm.trans hp1
  cases hg.symm.trans hg1;have k1:=(eJ h4).1;have mulx:∀ i,i<xs.length->i*e.sz+e.sz<=xs.length*e.sz:=fun i hi=>by
   have:(i+1)*e.sz<=xs.length*e.sz:=Nat.mul_le_mul_right _ hi;rw [zag,Nat.one_mul] at this;exact this
  have muly:∀ i,i<ys.length->i*e.sz+e.sz<=ys.length*e.sz:=fun i hi=>by
   have:(i+1)*e.sz<=ys.length*e.sz:=Nat.mul_le_mul_right _ hi;rw [zag,Nat.one_mul] at this;exact this
  have hadd:(xs.length+ys.length)*e.sz=xs.length*e.sz+ys.length*e.sz:=Nat.add_mul ..;have ats:∀ i j,i<xs.length->j<e.sz->io[o'+i*e.sz+j]? =vs[o+i*e.sz+j]? :=fun i j hi hj=>by
   have:=mulx i hi;rw [show o'+i*e.sz+j=o'+(i*e.sz+j) by omega,AM hrow hle1 (by omega),if_pos (by omega),Nat.add_assoc]
  have aty:∀ i j,i<ys.length->j<e.sz->io[o'+(xs.length+i)*e.sz+j]? =cs[i*e.sz+j]? :=fun i j hi hj=>by
   have:=muly i hi;have h7:(xs.length+i)*e.sz=xs.length*e.sz+i*e.sz:=Nat.add_mul ..;rw [show o'+(xs.length+i)*e.sz+j=o'+(xs.length*e.sz+i*e.sz+j) by omega,AM hrow hle1 (by omega),if_neg (by omega)]
   congr 1
   omega
  have nb:∀ c i,NB I' l' e.sz no none c i->NB I l e.sz no none c i:=by
   rintro c i ⟨q1,q2,b0,o0,vs0,et1,f2,ex2,sd2,q3,q4,q5⟩;cases hpos.symm.trans q3;cases hgB.symm.trans q4;by_cases hi:i<xs.length
   ·rw [ats i no hi k1] at q5
    exact ⟨q1,by omega,_,_,_,_,_,_,_,hp,hg,q5⟩
   ·have hi2:i - xs.length<ys.length:=by omega
    have:=aty (i - xs.length) no hi2 k1;rw [show xs.length+(i - xs.length)=i by omega,hnil _ hi2] at this;rw [this] at q5;cases q5
  refine ⟨⟨by rw [hlen',zaf],hsz',h3,h4,.inr ⟨B,o',io,f',ex',hpos,fun _ h=>hne (List.append_eq_nil_iff.1 h).2,hgB,htot,by rw [zaf];exact hle,hro,hf,fun i x hi=>?_,fun i x v hi _ hv=>?_,(fun i n x h=>by cases h),fun i j c hi hj=>hd i j c (nb c i hi) (nb c j hj),fun i hi=>hBn B i (nb B i hi) rfl⟩⟩,nb⟩
  ·by_cases hi2:i<xs.length
   ·rw [List.getElem?_append_left hi2] at hi
    rw [P4 (vs:=vs) (b:=o+i*e.sz) fun j hj=>ats i j hi2 hj];exact (hx i x hi).mono hk
   ·rw [List.getElem?_append_right (by omega)] at hi
    have hi3:i - xs.length<ys.length:=(List.getElem?_eq_some_iff.1 hi).1;have hen:=hy (i - xs.length) x hi;rw [Nat.zero_add] at hen;have hcut:(io.drop (o'+i*e.sz)).take e.sz=(cs.drop ((i - xs.length)*e.sz)).take e.sz:=P4 fun j hj=>by
     have:=aty (i - xs.length) j hi3 hj
     rwa [show xs.length+(i - xs.length)=i by omega] at this
    rw [hcut];have hen2:=(hen.mono hk.p hk.i).de (Γ:=Γ');have hrl:=hen.len;have hv:((cs.drop ((i - xs.length)*e.sz)).take e.sz)[no]? =some ((cs.drop ((i - xs.length)*e.sz)).take e.sz)[no]:=zaj (by omega);have:=hen2.set no (.undef ((cs.drop ((i - xs.length)*e.sz)).take e.sz)[no]);rw [iT hv] at this;exact this
  ·by_cases hi2:i<xs.length
   ·rw [List.getElem?_append_left hi2] at hi
    rw [ats i no hi2 k1] at hv;obtain ⟨l2,a1,a2⟩:=hin i x v hi (by simp) hv;refine ⟨l2,a1.mono (fun _ h=>h) hk.i fun c x' hp'=>hI c i ⟨by simp,by omega,_,_,_,_,_,_,_,hp,hg,?_⟩,a2⟩;unfold fT at a2;rw [hp'] at a2;obtain ⟨cap,rfl,_⟩:=a2;rw [hv];rfl
   ·rw [List.getElem?_append_right (by omega)] at hi
    have hi3:i - xs.length<ys.length:=(List.getElem?_eq_some_iff.1 hi).1;have:=aty (i - xs.length) no hi3 k1;rw [show xs.length+(i - xs.length)=i by omega,hnil _ hi3,hv] at this;cases this;have hnl:=hyn x (List.mem_of_getElem? hi);exact ⟨⟨none,0,ne.sz,0⟩,⟨by rw [hnl];rfl,rfl,hnesz,.inl ⟨rfl,hnl,by simp⟩⟩,⟨rfl,rfl⟩⟩
theorem BB (hs:aw P hint sh Γ Pu H I) {e net:TypeId} {s ne:Sh} {no:Nat} {xs:List s.ty} {cs:List Value} {em:Em} (hok:HW s no ne=true) (hlen:cs.length=xs.length*s.sz) (hrow:Row Pu I s xs cs 0)
  (hnil:∀ i x,xs[i]? =some x->aY s no ne x= []/\cs[i*s.sz+no]? =some (.slice none 0 0)) (cap:Nat) (hcap:iY cap s.sz xs.length 0 cs.length) (hem:em= .ex->xs≠ []):
  aw P hint sh (Γ.up H.n ⟨some (I.n,0),xs.length,s.sz,cs.length⟩) Pu (H.new (.nest e s no net ne xs em none)) (I.new (.cells cs e 0 false false))/\
   Ex (bx Γ H I) Γ Pu H I (Γ.up H.n ⟨some (I.n,0),xs.length,s.sz,cs.length⟩) Pu (H.new (.nest e s no net ne xs em none)) (I.new (.cells cs e 0 false false))/\
   GR (Γ.up H.n ⟨some (I.n,0),xs.length,s.sz,cs.length⟩) Pu (I.new (.cells cs e 0 false false)) (.all H.n) (.slice (some ⟨I.n,0,none⟩) xs.length cap):=by
 have hk:=jW hs ⟨some (I.n,0),xs.length,s.sz,cs.length⟩ (.cells cs e 0 false false);have hnb:∀ b i,¬ NB (I.new (.cells cs e 0 false false)) ⟨some (I.n,0),xs.length,s.sz,cs.length⟩ s.sz no none b i:=by
  rintro b i ⟨_,n2,b2,o2,vs2,et2,f2,ex2,sd2,hp2,hg2,hv2⟩;cases hp2;rw [IH.az,if_pos rfl] at hg2;cases hg2;rw [Nat.zero_add,(hnil i _ (zaj n2)).2] at hv2;cases hv2
 obtain ⟨s1,e1⟩:=hs.new (.nest e s no net ne xs em none) (.cells cs e 0 false false) ⟨some (I.n,0),xs.length,s.sz,cs.length⟩ 0 rfl
  ⟨rfl,rfl,s.dU,hok,.inr ⟨I.n,0,cs,0,false,rfl,hem,by rw [IH.az,if_pos rfl],rfl,by omega,hs.ro,zai _,
   fun i x hi=>by
    have h1:=(hrow i x hi).de (Γ:=Γ);have h2:=h1.set no (GR.undef (Γ:=Γ) (Pu:=Pu) (I:=I) ((cs.drop (0+i*s.sz)).take s.sz)[no]!);have:((cs.drop (0+i*s.sz)).take s.sz).set no ((cs.drop (0+i*s.sz)).take s.sz)[no]! =(cs.drop (0+i*s.sz)).take s.sz:=by
     have hl:=h1.length;rw [jf] at hl;have hlt:=(eJ hok).1;apply iT;rw [zaj (by omega),getElem!_pos _ _ (by omega)]
    rw [this] at h2;exact h2.mono hk,
   fun i x v hi _ hv=>by
    obtain ⟨a1,a2⟩:=hnil i x hi;rw [Nat.zero_add,a2] at hv;cases hv;exact ⟨⟨none,0,ne.sz,0⟩,⟨by rw [a1];rfl,rfl,ne.dU,.inl ⟨rfl,a1,by simp⟩⟩,rfl,rfl⟩,
   (fun _ _ _ h=>by cases h),fun i j b n1 _=>absurd n1 (hnb b i),fun i n1=>hnb _ i n1⟩⟩
  (fun b ⟨i,hi⟩=>hnb b i hi)
 refine ⟨s1,e1,.all (l:=⟨some (I.n,0),xs.length,s.sz,cs.length⟩) (by simp [bc.up]) ?_⟩;exact ⟨cap,by simp,by simpa using hcap⟩
theorem bH.row {l:Loc} {et:TypeId} {e:Sh} {no:Nat} {net:TypeId} {ne:Sh} {xs:List e.ty} {em:Em} (h:bH Γ Pu I l et e no net ne xs em none) (hx:∀ x∈xs,aY e no ne x= []) (hne:xs≠ []):
  ∃ b o vs f ex,l.pos=some (b,o)/\I.get b=some (.cells vs et f ex false)/\o+xs.length*e.sz<=vs.length/\Row Pu I e xs vs o/\∀ i,i<xs.length->vs[o+i*e.sz+no]? =some (.slice none 0 0):=by
 obtain ⟨h1,h2,h3,h4,h5 |⟨b,o,vs,f,ex,hp,he,hg2,ht,hle,hro,hf,hx1,hy,hh,hd,hself⟩⟩:=h
 ·exact absurd h5.2.1 hne
 ·obtain ⟨k1,k2⟩:=eJ h4
  have hnil:∀ i,i<xs.length->vs[o+i*e.sz+no]? =some (.slice none 0 0):=fun i hi=>by
   have hxi:xs[i]? =some xs[i]:=zaj hi;have:(i+1)*e.sz<=xs.length*e.sz:=Nat.mul_le_mul_right _ hi;rw [zag] at this;have hv:vs[o+i*e.sz+no]? =some vs[o+i*e.sz+no]:=zaj (by omega);obtain ⟨l',a1,a2⟩:=hy i _ _ hxi (by simp) hv;have hz:=hx _ (List.getElem_mem hi);rw [hz] at a1;have hp':=a1.isNil a2 rfl;unfold fT at a2;rw [hp'] at a2;rw [hv,a2.1]
  refine ⟨b,o,vs,f,ex,hp,hg2,hle,fun i x hi=>?_,hnil⟩;have hil:i<xs.length:=(List.getElem?_eq_some_iff.1 hi).1;have hz:=hx x (List.mem_of_getElem? hi);obtain ⟨g1,_,_⟩:=k2 x;rw [hz] at g1;have hk:((vs.drop (o+i*e.sz)).take e.sz)[no]? =some (.slice none 0 0):=by
   rw [List.getElem?_take,if_pos k1,List.getElem?_drop];exact hnil i hil
  have a7:GR Γ Pu I (.aC ne ([]:List ne.ty) none false) (.slice none 0 0):= .aC (.inl ⟨rfl,rfl⟩) (fun c hc=>by cases hc) (fun hc=>by cases hc);have a6:=(hx1 i x hi).set no a7;rw [List.set_set,iT hk] at a6;have b1:(e.de x).set no (.aC ne [] none false)=e.de x:=iT g1;rw [b1] at a6;exact Sh.eg (Sh.z6 x) a6
theorem DD (hs:aw P hint sh Γ Pu H I) {argTypes:Array TypeId} {s x:TV} {s' x':Value} (h:xL dW P sh H argTypes s x K=some r) (hsr:GR Γ Pu I s s') (hxr:GR Γ Pu I x x'):Good P hint sh K r Γ Pu H I (aq (iI P I argTypes s' x')):=by
 unfold xL at h;split at h
 ·rename_i id id2
  split at h
  ·rename_i et e no net ne xs em et2 e2 no2 net2 ne2 ys em2 hg1 hg2
   split at h
   ·rename_i hh h2 _ _
    subst hh;obtain ⟨h2⟩:=h2;subst h2;split at h
    ·rename_i t xt a0 a1
     split at h
     ·cases h
     ·rename_i a2
      split at h
      ·rename_i e' i a3
       split at h
       ·rename_i z a5
        replace h:=ae h;obtain ⟨hb,h⟩:=h;replace hb:=af hb;obtain ⟨hb,hb9⟩:=hb;replace hb:=af hb;obtain ⟨hb,hb8⟩:=hb;replace hb:=af hb;obtain ⟨hb,hb7⟩:=hb;replace hb:=af hb;obtain ⟨hb,hb6⟩:=hb;replace hb:=af hb;obtain ⟨hb,hb5⟩:=hb;replace hb:=af hb;obtain ⟨hb,hb4⟩:=hb;replace hb:=af hb;obtain ⟨hb,hb3⟩:=hb;replace hb:=af hb;obtain ⟨hb1,hb2⟩:=hb;have q1:=aB hb1;have q2:=beq_true hb2;have q3:=beq_true hb3;have q4:=beq_true hb4;have q5:=beq_true hb5;have q6:=beq_true hb6;subst q4 q5;replace h:=aE h;obtain ⟨hr,h⟩:=h;have hroom:=aB hr;have hyn:∀ y∈ys,aY e no ne y= []:=fun y hy=>by
         have:=List.all_eq_true.1 hb8 y hy;exact List.isEmpty_iff.1 this
        have hne:ys≠ []:=fun h0=>by rw [h0] at hb7;cases hb7
        have hid:id≠id2:=fun h0=>by rw [h0,Nat.beq_refl] at hb9;cases hb9
        have hyl:ys.length≠0:=fun h0=>hne (List.eq_nil_of_length_eq_zero h0)
        cases hsr with |all hl1 hv1=>
        rename_i l1;cases hxr with |all hl2 hv2=>
        rename_i l2;obtain ⟨l1',hl1',ho1⟩:=hs.obj id _ hg1;cases hl1.symm.trans hl1';obtain ⟨l2',hl2',ho2⟩:=hs.obj id2 _ hg2;cases hl2.symm.trans hl2';have n1:bH Γ Pu I l1 et e no net ne xs em none:=ho1;have n2:bH Γ Pu I l2 et2 e no net ne ys em2 none:=ho2;obtain ⟨b2,o2,vs2,f2,ex2,hp2,hgb2,hle2,hrow2,hnil2⟩:=n2.row hyn hne;have hsz:e.sz=i.size:=q3;have hx':∃ cap,x'= .slice (some ⟨b2,o2,none⟩) ys.length cap:=by
         rw [n2.1] at hv2;unfold fT at hv2;rw [hp2] at hv2;obtain ⟨cap,rfl,_⟩:=hv2;exact ⟨cap,by simp⟩
        obtain ⟨cap2,rfl⟩:=hx';have hcsl:((vs2.drop o2).take (ys.length*e.sz)).length=ys.length*e.sz:=by simp;omega
        have hsc:bJ I i.size ys.length (.slice (some ⟨b2,o2,none⟩) ys.length cap2)=some ((vs2.drop o2).take (ys.length*e.sz)):=by
         simp only [bJ,if_neg hyl,IH.bq,hgb2];rw [←hsz,if_pos hle2]
        have hrowc:=hrow2.cut ys.length (zai _);have hones:=hrowc.BM hcsl;rw [l3 a0 a1 (by simpa using a2) a3 rfl a5 hsc q1 q2 (by rw [←hsz];exact hcsl) hones];have hnilc:∀ j,j<ys.length->((vs2.drop o2).take (ys.length*e.sz))[j*e.sz+no]? =some (.slice none 0 0):=fun j hj=>by
         have hk1:=(eJ n1.2.2.2.1).1;have:(j+1)*e.sz<=ys.length*e.sz:=Nat.mul_le_mul_right _ hj;rw [zag] at this;rw [List.getElem?_take,if_pos (by omega),List.getElem?_drop,←Nat.add_assoc];exact hnil2 j hj
        rw [←hsz];obtain ⟨s1,e1⟩:=hs.drop id;obtain ⟨s2,e2'⟩:=s1.drop id2;by_cases hpos:l1.pos=none
        ·-- onto nothing
         have hxs:xs= []:=by
          obtain ⟨_,_,_,_,h5 |⟨b,o,vs,f,ex,hp,_⟩⟩:=n1
          ·exact h5.2.1
          ·rw [hpos] at hp;cases hp
         subst hxs;have hs':s'= .slice none 0 0:=by
          unfold fT at hv1;rw [hpos] at hv1;exact hv1.1
         subst hs';have hcapz:iY (eE+e.sz) e.sz ys.length 0 ((vs2.drop o2).take (ys.length*e.sz)).length:= .inl rfl;obtain ⟨s3,e3,r3⟩:=BB s2 (net:=net) (em:=em) n1.2.2.2.1 hcsl hrowc (fun j y hy=>⟨hyn y (List.mem_of_getElem? hy),hnilc j (List.getElem?_eq_some_iff.1 hy).1⟩) (eE+e.sz) hcapz (fun _=>hne);have hrun:gI I et e.sz i.bytes ys.length ((vs2.drop o2).take (ys.length*e.sz)) (.slice none 0 0)=some (.val (.slice (some ⟨I.n,0,none⟩) ys.length (eE+e.sz)) (I.new (.cells ((vs2.drop o2).take (ys.length*e.sz)) et 0 false false))):=by
          simp only [gI,if_neg hyl,c9];rw [if_pos (by simpa using hroom)]
         rw [←q6,hrun];exact ⟨_,_,_,_,_,_,h,rfl,r3,s3,Ex.trans hs s1 e1 (Ex.trans s1 s2 e2' e3)⟩
        ·obtain ⟨h1,h2,h3,h4,h5 |⟨b,o,vs,f,ex,hp,he,hg,ht,hle,hro,hf,hx1,hy,hh,hd,hself⟩⟩:=n1
         ·exact absurd h5.1 hpos
         ·have hs':∃ cap,s'= .slice (some ⟨b,o,none⟩) xs.length cap/\iY cap e.sz xs.length o vs.length:=by
           rw [h1] at hv1;unfold fT at hv1;rw [hp] at hv1;obtain ⟨cap,rfl,hc⟩:=hv1;rw [h2,←ht] at hc;simp only [Nat.zero_mul,Nat.add_zero] at hc ⊢;exact ⟨cap,rfl,hc⟩
          obtain ⟨cap,rfl,hcap⟩:=hs';obtain ⟨B,o',io,f',ex',cap',I',w1,w2,w3,w4,w5,w6,w7,w8,w9,w10⟩:=NW (cs:=(vs2.drop o2).take (ys.length*e.sz)) hg hro hf hle hcap hyl hcsl e.dU hones (bytes:=i.bytes) hroom hs.fresh;rw [←q6,w1];have hblt:=hs.cq (.pos hg1 rfl hl1 hp);have hgam:Γ.up H.n ⟨some (B,o'),xs.length+ys.length,e.sz,io.length⟩ H.n=some ⟨some (B,o'),xs.length+ys.length,e.sz,io.length⟩:=by simp [bc.up]
          have hnbo:∀ c j,NB I l1 e.sz no none c j->bx Γ H I c:=fun c j hn=>⟨id,_,l1,hg1,rfl,hl1,.inr ⟨j,hn⟩⟩
          have hnbne:∀ c j,NB I l1 e.sz no none c j->c≠b:=fun c j hn hc=>hself j (hc▸hn)
          have hk:cH Γ Pu I (Γ.up H.n ⟨some (B,o'),xs.length+ys.length,e.sz,io.length⟩) Pu I':=⟨fun _ _ h=>bc.dG hs h,fun _ h=>h,fun c hc=>w8 c (hs.jh hc) fun hcb=>hs.sep b (.pos hg1 rfl hl1 hp) (hcb▸hc)⟩;obtain ⟨nn,nb⟩:=bH.app (Γ':=Γ.up H.n ⟨some (B,o'),xs.length+ys.length,e.sz,io.length⟩) (I':=I') (l':=⟨some (B,o'),xs.length+ys.length,e.sz,io.length⟩) ⟨h1,h2,h3,h4,.inr ⟨b,o,vs,f,ex,hp,he,hg,ht,hle,hro,hf,hx1,hy,hh,hd,hself⟩⟩ hp hg hrowc hcsl hyn hnilc hne ne.dU rfl w2 rfl rfl rfl w5 (by
            rcases w7 with rfl |rfl
            ·exact hro
            ·exact hs.ro) w4 w3 (fun c j hn=>w8 c (hs.cq (hnbo c j hn)) (hnbne c j hn)) (fun c j hn hc=>by
            rcases w7 with h7 |h7
            ·exact hnbne c j hn (hc.trans h7)
            ·have:=hs.cq (hnbo c j hn);omega) hk
          have idlt:=hs.bj id l1 hl1;have id2lt:=hs.bj id2 l2 hl2;have getH:∀ k ob,(((H.del id).del id2).new (.nest et e no net ne (xs++ys) em none)).get k=some ob->(k=H.n/\ob= .nest et e no net ne (xs++ys) em none)∨(k≠H.n/\k≠id/\k≠id2/\H.get k=some ob):=fun k ob hk'=>by
           rw [GH.az] at hk';split at hk'
           ·rename_i hkn;cases hk';exact .inl ⟨hkn,rfl⟩
           ·rename_i hkn
            rw [GH.cO] at hk';split at hk'
            ·cases hk'
            ·rename_i hk2
             rw [GH.cO] at hk';split at hk'
             ·cases hk'
             ·rename_i hk1;exact .inr ⟨hkn,hk1,hk2,hk'⟩
          obtain ⟨s3,e3⟩:=hs.Qy (Γ':=Γ.up H.n ⟨some (B,o'),xs.length+ys.length,e.sz,io.length⟩) (H':=((H.del id).del id2).new (.nest et e no net ne (xs++ys) em none)) (I':=I') (fun k=>k=id∨k=id2∨k=H.n)
           (fun k ob hC hk'=>by
            rcases getH k ob hk' with ⟨g1,_⟩ |⟨_,_,_,g4⟩
            ·exact absurd (.inr (.inr g1)) hC
            ·exact g4)
           (fun k st hst=>by
            rw [GH.dT] at hst;split at hst
            ·cases hst
             exact .inr ⟨zai _,Nat.lt_succ_self _⟩
            ·rename_i hkn
             rw [GH.eB] at hst;split at hst
             ·cases hst
             ·rename_i hk2
              rw [GH.eB] at hst;split at hst
              ·cases hst
              ·rename_i hk1
               exact .inl ⟨hst,fun hC=>hC.elim hk1 fun hC=>hC.elim hk2 hkn⟩)
           (Nat.le_succ _) (Nat.le_succ _) (fun k l hk'=>bc.dG hs hk')
           (fun k l hC hk'=>by
            unfold bc.up at hk';rw [if_neg (fun hkn=>hC (.inr (.inr hkn)))] at hk';exact hk')
           (fun k l hk'=>by
            unfold bc.up at hk'
            show k<H.n+1
            split at hk'
            ·omega
            ·have:=hs.bj k l hk';omega)
           (fun c hc hO=>w8 c hc fun hcb=>hO ⟨id,_,l1,.inl rfl,hg1,rfl,hl1,.inl ⟨o,by rw [hcb];exact hp⟩⟩)
           w9 w10
           (fun k ob hC hk'=>by
            rcases getH k ob hk' with ⟨rfl,rfl⟩ |⟨g1,g2,g3,_⟩
            ·refine ⟨_,hgam,nn,rfl,fun c hat=>?_⟩
             rcases hat with ⟨y,hpc⟩ |⟨j,hj⟩
             ·cases hpc
              rcases w7 with h7 |h7
              ·exact .inl ⟨id,_,l1,.inl rfl,hg1,rfl,hl1,.inl ⟨o,by rw [h7];exact hp⟩⟩
              ·exact .inr (Nat.le_of_eq h7.symm)
             ·exact .inl ⟨id,_,l1,.inl rfl,hg1,rfl,hl1,.inr ⟨j,nb c j hj⟩⟩
            ·exact absurd hC (fun hC=>hC.elim g2 fun hC=>hC.elim g3 g1))
           (fun k k' ob ob' la lb c hC hC' hk1 hk2 _ _ _ _=>by
            rcases getH k ob hk1 with ⟨g1,_⟩ |⟨g1,g2,g3,_⟩
            ·rcases getH k' ob' hk2 with ⟨g1',_⟩ |⟨g1',g2',g3',_⟩
             ·rw [g1,g1']
             ·exact absurd hC' (fun hC=>hC.elim g2' fun hC=>hC.elim g3' g1')
            ·exact absurd hC (fun hC=>hC.elim g2 fun hC=>hC.elim g3 g1))
          exact ⟨_,_,_,_,_,_,h,rfl,.all hgam ⟨cap',by simp,by simpa using w6⟩,s3,e3⟩
       ·cases h
      ·cases h
    ·cases h
   ·cases h
  ·exact oM hs h hsr hxr
 ·-- onto nil
  rename_i id2;split at h
  ·rename_i et e no net ne ys em2 hg2
   split at h
   ·rename_i t xt a0 a1
    split at h
    ·cases h
    ·rename_i a2
     split at h
     ·rename_i e' i a3
      split at h
      ·rename_i z a5
       replace h:=ae h;obtain ⟨hb,h⟩:=h;replace hb:=af hb;obtain ⟨hb,hb8⟩:=hb;replace hb:=af hb;obtain ⟨hb,hb7⟩:=hb;replace hb:=af hb;obtain ⟨hb,hb6⟩:=hb;replace hb:=af hb;obtain ⟨hb,hb3⟩:=hb;replace hb:=af hb;obtain ⟨hb1,hb2⟩:=hb;have q1:=aB hb1;have q2:=beq_true hb2;have q3:=beq_true hb3;have q6:=beq_true hb6;replace h:=aE h;obtain ⟨hr,h⟩:=h;have hroom:=aB hr;have hyn:∀ y∈ys,aY e no ne y= []:=fun y hy=>by
        have:=List.all_eq_true.1 hb8 y hy;exact List.isEmpty_iff.1 this
       have hne:ys≠ []:=fun h0=>by rw [h0] at hb7;cases hb7
       have hyl:ys.length≠0:=fun h0=>hne (List.eq_nil_of_length_eq_zero h0)
       cases hsr with |raw _=>
       cases hxr with |all hl2 hv2=>
       rename_i l2;obtain ⟨l2',hl2',ho2⟩:=hs.obj id2 _ hg2;cases hl2.symm.trans hl2';have n2:bH Γ Pu I l2 et e no net ne ys em2 none:=ho2;obtain ⟨b2,o2,vs2,f2,ex2,hp2,hgb2,hle2,hrow2,hnil2⟩:=n2.row hyn hne;have hsz:e.sz=i.size:=q3;have hx':∃ cap,x'= .slice (some ⟨b2,o2,none⟩) ys.length cap:=by
        rw [n2.1] at hv2;unfold fT at hv2;rw [hp2] at hv2;obtain ⟨cap,rfl,_⟩:=hv2;exact ⟨cap,by simp⟩
       obtain ⟨cap2,rfl⟩:=hx';have hcsl:((vs2.drop o2).take (ys.length*e.sz)).length=ys.length*e.sz:=by simp;omega
       have hsc:bJ I i.size ys.length (.slice (some ⟨b2,o2,none⟩) ys.length cap2)=some ((vs2.drop o2).take (ys.length*e.sz)):=by
        simp only [bJ,if_neg hyl,IH.bq,hgb2];rw [←hsz,if_pos hle2]
       have hrowc:=hrow2.cut ys.length (zai _);have hones:=hrowc.BM hcsl;rw [l3 a0 a1 (by simpa using a2) a3 rfl a5 hsc q1 q2 (by rw [←hsz];exact hcsl) hones];have hnilc:∀ j,j<ys.length->((vs2.drop o2).take (ys.length*e.sz))[j*e.sz+no]? =some (.slice none 0 0):=fun j hj=>by
        have hk1:=(eJ n2.2.2.2.1).1;have:(j+1)*e.sz<=ys.length*e.sz:=Nat.mul_le_mul_right _ hj;rw [zag] at this;rw [List.getElem?_take,if_pos (by omega),List.getElem?_drop,←Nat.add_assoc];exact hnil2 j hj
       rw [←hsz];obtain ⟨s2,e2'⟩:=hs.drop id2;have hcapz:iY (eE+e.sz) e.sz ys.length 0 ((vs2.drop o2).take (ys.length*e.sz)).length:= .inl rfl;obtain ⟨s3,e3,r3⟩:=BB s2 (net:=net) (em:= .any) (e:=et) n2.2.2.2.1 hcsl hrowc (fun j y hy=>⟨hyn y (List.mem_of_getElem? hy),hnilc j (List.getElem?_eq_some_iff.1 hy).1⟩) (eE+e.sz) hcapz (fun _=>hne);have hrun:gI I et e.sz i.bytes ys.length ((vs2.drop o2).take (ys.length*e.sz)) (.slice none 0 0)=some (.val (.slice (some ⟨I.n,0,none⟩) ys.length (eE+e.sz)) (I.new (.cells ((vs2.drop o2).take (ys.length*e.sz)) et 0 false false))):=by
        simp only [gI,if_neg hyl,c9];rw [if_pos (by simpa using hroom)]
       rw [←q6,hrun];exact ⟨_,_,_,_,_,_,h,rfl,r3,s3,Ex.trans hs s2 e2' e3⟩
      ·cases h
     ·cases h
   ·cases h
  ·exact oM hs h hsr hxr
 ·exact oM hs h hsr hxr
end
end Go.Gv
