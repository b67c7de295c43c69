/- Some objects become others: those that were concerned give their blocks, those that come of them have them. -/
import Derived.Test.YtnddpppljnjmcaaGreatDoorGvHeap
import Derived.Test.YtnddpppljnjmcaaGreatDoorGvMap
import Derived.Test.YtnddpppljnjmcaaGreatDoorGvSimX
import Derived.Test.YtnddpppljnjmcaaGreatDoorGvOpsY
set_option linter.unusedSimpArgs false
set_option linter.unusedVariables false
namespace Go.Gv
open Go Go.Iv
section
variable {P:Program} {hint:Hint} {sh:cr}
variable {Γ Γ':bb} {Pu:Nat→Prop} {H H':GH} {I I':IH}
def Of (C:Nat→Prop) (Γ:bb) (H:GH) (I:IH) (b:Nat):Prop:=∃ k o l,C k∧H.get k=some o∧o.ej=true∧Γ k=some l∧At I l o b
theorem Of.own {C:Nat→Prop} {b:Nat} (h:Of C Γ H I b):bM Γ H I b:=by
 obtain ⟨k,o,l,_,h1,h2,h3,h4⟩:=h
 exact ⟨k,o,l,h1,h2,h3,h4⟩
theorem ar.QA (hs:ar P hint sh Γ Pu H I) (C:Nat→Prop)
  (hg:∀ k o,¬ C k→H'.get k=some o→H.get k=some o)
  (hst:∀ k s,H'.bh k=some s→H.bh k=some s∧¬ C k∨H.ck≤s∧s<H'.ck)
  (hck:H.ck≤H'.ck) (hn:H.n≤H'.n)
  (hΓ:∀ k l,Γ k=some l→Γ' k=some l) (hΓ2:∀ k l,¬ C k→Γ' k=some l→Γ k=some l) (hΓ3:∀ k l,Γ' k=some l→k<H'.n)
  (hI:∀ b,b<I.n→¬ Of C Γ H I b→I'.get b=I.get b) (hIn:I.n≤I'.n) (hfr:∀ b,I'.n≤b→I'.get b=none)
  (hC:∀ k o,C k→H'.get k=some o→∃ l,Γ' k=some l∧OR P hint Γ' Pu I' l o∧o.ej=true∧∀ b,At I' l o b→Of C Γ H I b∨I.n≤b)
  (hinj:∀ k k' o o' l l' b,C k→C k'→H'.get k=some o→H'.get k'=some o'→Γ' k=some l→Γ' k'=some l'→At I' l o b→At I' l' o' b→k=k'):
  ar P hint sh Γ' Pu H' I'∧Ex (bM Γ H I) Γ Pu H I Γ' Pu H' I':=by
 have hp:∀ b,Pu b→I'.get b=I.get b:=fun b hb=>hI b (hs.jx hb) fun h=>hs.sep b h.own hb
 have hk:cy Γ Pu I Γ' Pu I':=⟨hΓ,fun _ h=>h,hp⟩
 have oth:∀ k o l b,¬ C k→H.get k=some o→o.ej=true→Γ k=some l→At I l o b→¬ Of C Γ H I b:=by
  rintro k o l b hck h1 h2 h3 h4 ⟨k',o',l',c,g1,g2,g3,g4⟩
  exact hck ((hs.inj k k' o o' l l' b h1 g1 h2 g2 h3 g3 h4 g4)▸c)
 have ato:∀ k o l b,¬ C k→H.get k=some o→o.ej=true→Γ k=some l→At I' l o b→At I l o b:=fun k o l b hck h1 h2 h3 h4=>
  h4.congr fun b' x hp'=>hI b' (hs.cj (.pos h1 h2 h3 hp')) (oth k o l b' hck h1 h2 h3 (.inl ⟨x,hp'⟩))
 have ownI:∀ b,bM Γ' H' I' b→bM Γ H I b∨I.n≤b:=by
  rintro b ⟨k,o,l,h1,h2,h3,h4⟩
  by_cases c:C k
  ·obtain ⟨l',g1,_,_,g2⟩:=hC k o c h1
   cases h3.symm.trans g1
   exact (g2 b h4).imp (fun h=>h.own) id
  ·have e1:=hg k o c h1
   have e2:=hΓ2 k l c h3
   exact .inl ⟨k,o,l,e1,h2,e2,ato k o l b c e1 h2 e2 h4⟩
 refine ⟨⟨?_,?_,fun b h hpu=>(ownI b h).elim (fun h=>hs.sep b h hpu) (fun h=>Nat.lt_irrefl _ (Nat.lt_of_lt_of_le (hs.jx hpu) h)),hΓ3,?_,?_,Nat.le_trans hs.ro hIn,Nat.le_trans hs.gn hn,?_,?_,hs.mF hk.p hk.i⟩,⟨hΓ,hn,hIn,fun _ h=>h,fun b hb ho=>hI b hb fun h=>ho h.own,fun b hb h=>(ownI b h).elim id (fun h=>absurd hb (Nat.not_lt.2 h)),fun _ _ h=> .inl h,hck,?_,?_⟩⟩
 ·intro k o h
  by_cases c:C k
  ·obtain ⟨l,g1,g2,_⟩:=hC k o c h
   exact ⟨l,g1,g2⟩
  ·have e1:=hg k o c h
   obtain ⟨l,hl,_⟩:=hs.obj k o e1
   exact ⟨l,hΓ k l hl,hs.dS hk e1 hl fun hm b hat=>hI b (hs.cj ⟨k,o,l,e1,hm,hl,hat⟩) (oth k o l b c e1 hm hl hat)⟩
 ·intro k k' o o' l l' b h1 h2 h3 h4 h5 h6 h7 h8
  by_cases c:C k
  ·by_cases c':C k'
   ·exact hinj k k' o o' l l' b c c' h1 h2 h5 h6 h7 h8
   ·obtain ⟨l2,g1,_,_,g2⟩:=hC k o c h1
    cases h5.symm.trans g1
    have e1:=hg k' o' c' h2
    have e2:=hΓ2 k' l' c' h6
    have e3:=ato k' o' l' b c' e1 h4 e2 h8
    rcases g2 b h7 with g3 |g3
    ·exact absurd g3 (oth k' o' l' b c' e1 h4 e2 e3)
    ·exact absurd (hs.cj ⟨k',o',l',e1,h4,e2,e3⟩) (Nat.not_lt.2 g3)
  ·have e1:=hg k o c h1
   have e2:=hΓ2 k l c h5
   have e3:=ato k o l b c e1 h3 e2 h7
   by_cases c':C k'
   ·obtain ⟨l2,g1,_,_,g2⟩:=hC k' o' c' h2
    cases h6.symm.trans g1
    rcases g2 b h8 with g3 |g3
    ·exact absurd g3 (oth k o l b c e1 h3 e2 e3)
    ·exact absurd (hs.cj ⟨k,o,l,e1,h3,e2,e3⟩) (Nat.not_lt.2 g3)
   ·have e1':=hg k' o' c' h2
    have e2':=hΓ2 k' l' c' h6
    exact hs.inj k k' o o' l l' b e1 e1' h3 h4 e2 e2' e3 (ato k' o' l' b c' e1' h4 e2' h8)
 ·exact hfr
 ·intro b hb
  obtain ⟨cs,et,fz,ex,sd,h⟩:=hs.pu b hb
  exact ⟨cs,et,fz,ex,sd,(hp b hb).trans h⟩
 ·intro g hgl
  obtain ⟨l,h1,h2⟩:=hs.ct g hgl
  exact ⟨l,hΓ g l h1,h2⟩
 ·intro k s h
  rcases hst k s h with ⟨h1,_⟩ |⟨_,h1⟩
  ·exact Nat.lt_of_lt_of_le (hs.st k s h1) hck
  ·exact h1
 ·intro k hk'
  cases h:H'.bh k with
  |none=>exact .inl rfl
  |some s=>
   rcases hst k s h with ⟨h1,_⟩ |⟨h1,_⟩
   ·exact .inr (.inl h1.symm)
   ·exact .inr (.inr ⟨s,rfl,h1⟩)
 ·intro k l b x s h1 h2 h3 h4
  rcases hst k s h2 with ⟨_,c⟩ |⟨g1,_⟩
  ·exact hs.ew hk h1 h3 h4 fun o hg' hm=>hI b (hs.cj (.pos hg' hm h3 h4)) (oth k o l b c hg' hm h3 (.inl ⟨x,h4⟩))
  ·have:=hs.st k s h1;omega
theorem ar.shift (hs:ar P hint sh Γ Pu H I) (C:Nat→Prop)
  (hg:∀ k o,¬ C k→H'.get k=some o→H.get k=some o)
  (hst:∀ k s,H'.bh k=some s→H.bh k=some s∧¬ C k∨H.ck≤s∧s<H'.ck)
  (hck:H.ck≤H'.ck) (hn:H.n≤H'.n)
  (hΓ:∀ k l,Γ k=some l→Γ' k=some l) (hΓ2:∀ k l,¬ C k→Γ' k=some l→Γ k=some l) (hΓ3:∀ k l,Γ' k=some l→k<H'.n)
  (hI:∀ b,¬ Of C Γ H I b→I'.get b=I.get b) (hIn:I'.n=I.n)
  (hC:∀ k o,C k→H'.get k=some o→∃ l,Γ' k=some l∧OR P hint Γ' Pu I' l o∧o.ej=true∧∀ b,At I' l o b→Of C Γ H I b)
  (hinj:∀ k k' o o' l l' b,C k→C k'→H'.get k=some o→H'.get k'=some o'→Γ' k=some l→Γ' k'=some l'→At I' l o b→At I' l' o' b→k=k'):
  ar P hint sh Γ' Pu H' I'∧Ex (bM Γ H I) Γ Pu H I Γ' Pu H' I':=
 hs.QA C hg hst hck hn hΓ hΓ2 hΓ3 (fun b _=>hI b) (Nat.le_of_eq hIn.symm) (fun b hb=>by
  rw [hIn] at hb
  by_cases h:Of C Γ H I b
  ·have:=hs.cj h.own;omega
  ·rw [hI b h];exact hs.fresh b hb)
  (fun k o c h=>by
   obtain ⟨l,a,b,d,e⟩:=hC k o c h
   exact ⟨l,a,b,d,fun x hx=> .inl (e x hx)⟩) hinj
end
end Go.Gv
/- Lists whose elements hold lists: the operations. -/
namespace Go.Gv
open Go Go.Iv
section
variable {β:Type} {P:Program} {hint:Hint} {sh:cr} {Γ Γ1 Γ':bb} {Pu Pu1:Nat→Prop} {H H1:GH} {I I1 I':IH} {K:TV→GH→Option β} {r:β}
theorem fp.isNil {l:Loc} {et:TypeId} {e:Sh} {xs:List e.ty} {w fz:Bool} {v:Value} (h:fp Pu I l et e xs w fz .ex) (hv:eU l 0 l.len v) (hx:xs= []):l.pos=none:=by
 obtain ⟨_,_,_,h4 |⟨b,o,vs,f,ex,sd,hp,he,_⟩⟩:=h
 ·exact h4.1
 ·exact absurd hx (he rfl)
theorem cq.lay {l:Loc} {et:TypeId} {e:Sh} {no:Nat} {net:TypeId} {ne:Sh} {xs:List e.ty} {em:Em} {ho:Option (Nat×Nat×e.ty)} (h:cq Γ Pu I l et e no net ne xs em ho) {i:Nat} {x:e.ty} (hx:xs[i]? =some x) (hho:∀ j n y,ho=some (j,n,y)→j=i)
  {ys:List ne.ty} {ln:Loc} {v:Value} (hn:fp Pu I ln net ne ys true false .ex) (hv:eU ln 0 ln.len v) {b0 o:Nat} (hp:l.pos=some (b0,o)) {vs:List Value} {f:Nat} {ex:Bool} (hg:I.get b0=some (.cells vs et f ex false))
  (hI0:I'.get b0=some (.cells (vs.set (o+i*e.sz+no) v) et f ex false)) (hI:∀ b,b≠b0→I'.get b=I.get b) (hk:cy Γ Pu I Γ' Pu I')
  (hb:∀ b,mW v=some b→b≠b0∧∀ j,j≠i→¬ NB I l e.sz no (ho.map (·.1)) b j):
  cq Γ' Pu I' l et e no net ne (xs.set i (eZ e no ne x ys)) em none∧∀ b j,NB I' l e.sz no none b j→(j=i∧mW v=some b)∨(j≠i∧NB I l e.sz no (ho.map (·.1)) b j):=by
 obtain ⟨h1,h2,h3,h4,h5 |⟨b1,o1,vs1,f1,ex1,hp1,he,hg1,ht,hl,hro,hf,hE,hy,hh,hd,hself⟩⟩:=h
 ·rw [h5.1] at hp;cases hp
 cases hp.symm.trans hp1
 cases hg.symm.trans hg1
 obtain ⟨hno,hok⟩:=qy h4
 have hi:i<xs.length:=(List.getElem?_eq_some_iff.1 hx).1
 have cell:∀ j,j<xs.length→o+j*e.sz+no<vs.length:=fun j hj=>by
  have:(j+1)*e.sz≤xs.length*e.sz:=Nat.mul_le_mul_right _ hj
  rw [Nat.add_mul,Nat.one_mul] at this;omega
 have cne:∀ j,j≠i→o+i*e.sz+no≠o+j*e.sz+no:=fun j hj hc=>by
  have:i*e.sz=j*e.sz:=by omega
  exact hj (Nat.eq_of_mul_eq_mul_right h3 this).symm
 have nb:∀ b j,NB I' l e.sz no none b j→(j=i∧mW v=some b)∨(j≠i∧NB I l e.sz no (ho.map (·.1)) b j):=by
  rintro b j ⟨_,n2,b2,o2,vs2,et2,f2,ex2,sd2,hp2,hg2,hv2⟩
  cases hp.symm.trans hp2
  rw [hI0] at hg2
  cases hg2
  have hj:j<xs.length:=by rw [←h1];exact n2
  by_cases hji:j=i
  ·subst hji
   rw [List.getElem?_set_self (cell j hj)] at hv2
   exact .inl ⟨rfl,hv2⟩
  ·rw [List.getElem?_set_ne (cne j hji)] at hv2
   refine .inr ⟨hji,?_,n2,b0,o,vs,et,f,ex,false,hp,hg,hv2⟩
   intro hc
   cases ho with
   |none=>cases hc
   |some q=>
    obtain ⟨j2,n,y⟩:=q
    simp only [Option.map_some,Option.some.injEq] at hc
    exact hji (hc▸hho j2 n y rfl)
 refine ⟨⟨by rw [List.length_set];exact h1,h2,h3,h4,.inr ⟨b0,o,_,f,ex,hp,fun hem hc=>he hem (by have:=congrArg List.length hc;rw [List.length_set] at this;exact List.eq_nil_of_length_eq_zero this),hI0,by rw [List.length_set];exact ht,by rw [List.length_set,List.length_set];exact hl,hro,hf,?_,?_,(fun _ _ _ h=>by cases h),?_,?_⟩⟩,nb⟩
 ·intro j z hz
  rw [List.getElem?_set] at hz
  have drop_set:∀ j,(((vs.set (o+i*e.sz+no) v).drop (o+j*e.sz)).take e.sz)=if j=i then (((vs.drop (o+j*e.sz)).take e.sz).set no v) else ((vs.drop (o+j*e.sz)).take e.sz):=by
   intro j
   apply List.ext_getElem?
   intro k
   rw [List.getElem?_take,List.getElem?_drop]
   by_cases hk2:k<e.sz
   ·rw [if_pos hk2]
    by_cases hji:j=i
    ·subst hji
     rw [if_pos rfl,List.getElem?_set,List.getElem?_set,List.getElem?_take,if_pos hk2,List.getElem?_drop]
     by_cases hkn:no=k
     ·subst hkn
      simp only [if_true,List.length_take,List.length_drop]
      by_cases hc:o+j*e.sz+no<vs.length
      ·rw [if_pos hc,if_pos (by omega)]
      ·rw [if_neg hc,if_neg (by omega)]
     ·rw [if_neg (by omega),if_neg hkn]
    ·rw [if_neg hji,List.getElem?_take,if_pos hk2,List.getElem?_drop,List.getElem?_set_ne]
     intro hc
     rcases Nat.lt_or_gt_of_ne hji with hlt |hlt
     ·have:(j+1)*e.sz≤i*e.sz:=Nat.mul_le_mul_right _ hlt
      rw [Nat.add_mul,Nat.one_mul] at this;omega
     ·have:(i+1)*e.sz≤j*e.sz:=Nat.mul_le_mul_right _ hlt
      rw [Nat.add_mul,Nat.one_mul] at this;omega
   ·rw [if_neg hk2]
    split
    ·rw [List.getElem?_set,List.getElem?_take,if_neg hk2]
     split
     ·omega
     ·rfl
    ·rw [List.getElem?_take,if_neg hk2]
  rw [drop_set j]
  split at hz
  ·rename_i hij
   subst hij
   cases hz
   rw [if_pos rfl,Ki h4]
   have h0:=(hE i x hx).mono hk
   have:=h0.set no (GR.undef (Γ:=Γ') (Pu:=Pu) (I:=I') v)
   rwa [List.set_set] at this
  ·rename_i hij
   rw [if_neg (fun hc=>hij hc.symm)]
   exact (hE j z hz).mono hk
 ·intro j z w hz _ hw
  rw [List.getElem?_set] at hz
  split at hz
  ·rename_i hij
   subst hij
   first |(rw [if_pos hi] at hz) |skip
   cases hz
   rw [List.getElem?_set_self (cell i hi)] at hw
   cases hw
   rw [DL h4]
   refine ⟨ln,hn.mono hk.p hk.i fun b y hp'=>hI b fun hc=>?_,hv⟩
   exact (hb b (na hv hp')).1 hc
  ·rename_i hij
   have hji:j≠i:=fun hc=>hij hc.symm
   rw [List.getElem?_set_ne (cne j hji)] at hw
   have hne:ho.map (·.1)≠some j:=fun hc=>by
    cases ho with
    |none=>cases hc
    |some q=>
     obtain ⟨j2,n,y⟩:=q
     simp only [Option.map_some,Option.some.injEq] at hc
     exact hji (hc▸hho j2 n y rfl)
   obtain ⟨l',a1,a2⟩:=hy j z w hz hne hw
   refine ⟨l',a1.mono hk.p hk.i fun b y hp'=>hI b fun hc=>?_,a2⟩
   refine hself j ⟨hne,by rw [h1];exact (List.getElem?_eq_some_iff.1 hz).1,b0,o,vs,et,f,ex,false,hp,hg,?_⟩
   rw [hw,←hc];exact na a2 hp'
 ·intro j k b n1 n2
  rcases nb b j n1 with ⟨e1,e2⟩ |⟨e1,e2⟩<;>rcases nb b k n2 with ⟨g1,g2⟩ |⟨g1,g2⟩
  ·rw [e1,g1]
  ·exact absurd g2 ((hb b e2).2 k g1)
  ·exact absurd e2 ((hb b g2).2 j e1)
  ·exact hd j k b e2 g2
 ·intro j n1
  rcases nb b0 j n1 with ⟨e1,e2⟩ |⟨e1,e2⟩
  ·exact (hb b0 e2).1 rfl
  ·exact hself j e2
end
end Go.Gv
/- Lists whose elements hold lists: taken out, laid back. -/
namespace Go.Gv
open Go Go.Iv
section
variable {β:Type} {P:Program} {hint:Hint} {sh:cr} {Γ Γ1 Γ':bb} {Pu Pu1:Nat→Prop} {H H1:GH} {I I1 I':IH} {K:TV→GH→Option β} {r:β}
theorem uA {α:Type} {l:List α} {i:Nat} {a:α} (h:l[i]? =some a):l.set i a=l:=by
 apply List.ext_getElem?
 intro k
 rw [List.getElem?_set]
 split
 ·rename_i e
  subst e
  rw [if_pos (List.getElem?_eq_some_iff.1 h).1,h]
 ·rfl
theorem ar.Lz (hs:ar P hint sh Γ Pu H I) {id n:Nat} {o o':cb} {l l':Loc} {b x:Nat} (h1:H.get id=some o) (h2:H.get n=some o') (m1:o.ej=true) (m2:o'.ej=true) (g1:Γ id=some l) (g2:Γ n=some l') (hne:id≠n) (hp:l'.pos=some (b,x)):¬ At I l o b:=
 fun h=>hne (hs.inj id n o o' l l' b h1 h2 m1 m2 g1 g2 h (.inl ⟨x,hp⟩))
theorem fp.exact {l:Loc} {et:TypeId} {e:Sh} {xs:List e.ty} {w fz:Bool} {em:Em} (h:fp Pu I l et e xs w fz em) (hem:em= .ex∨xs≠ []):fp Pu I l et e xs w fz .ex:=by
 rcases hem with rfl |hne
 ·exact h
 ·obtain ⟨h1,h2,h3,h4 |⟨b,o,vs,f,ex,sd,hp,he,hr⟩⟩:=h
  ·exact absurd h4.2.1 hne
  ·exact ⟨h1,h2,h3,.inr ⟨b,o,vs,f,ex,sd,hp,fun _=>hne,hr⟩⟩
theorem zC (hs:ar P hint sh Γ Pu H I) (id:Nat):ar P hint sh Γ Pu (AQ H id) I∧Ex (bM Γ H I) Γ Pu H I Γ Pu (AQ H id) I:=⟨hs,Ex.refl hs⟩
theorem cq.cells {l:Loc} {et:TypeId} {e:Sh} {no:Nat} {net:TypeId} {ne:Sh} {xs:List e.ty} {em:Em} {ho:Option (Nat×Nat×e.ty)} (h:cq Γ Pu I l et e no net ne xs em ho) {i:Nat} {x:e.ty} (hx:xs[i]? =some x) {b o:Nat} (hp:l.pos=some (b,o)) (off:Nat) (hoff:off≤e.sz):
  ∃ bs f ex,I.get b=some (.cells bs et f ex false)∧o+i*l.sz+off+(((e.cZ x).set no .undef).drop off).length≤bs.length∧bG Γ Pu I (((e.cZ x).set no .undef).drop off) ((bs.drop (o+i*l.sz+off)).take (((e.cZ x).set no .undef).drop off).length):=by
 obtain ⟨h1,h2,h3,h4,h5 |⟨b0,o',vs,f,ex,hp2,he,hgb,ht,hlen,hro,hf,hE,_⟩⟩:=h
 ·rw [h5.1] at hp;cases hp
 ·cases hp.symm.trans hp2
  have hr:=hE i x hx
  have hlt:((e.cZ x).set no .undef).length=e.sz:=by rw [List.length_set,oz]
  have hil:i<xs.length:=(List.getElem?_eq_some_iff.1 hx).1
  have hb:o+i*e.sz+e.sz≤vs.length:=by
   have:(i+1)*e.sz≤xs.length*e.sz:=Nat.mul_le_mul_right _ hil
   rw [Nat.add_mul,Nat.one_mul] at this;omega
  have hd:=hr.drop off
  rw [h2]
  have e1:(((e.cZ x).set no .undef).drop off).length=e.sz - off:=by rw [List.length_drop,hlt]
  refine ⟨vs,f,ex,hgb,by rw [e1];omega,?_⟩
  rw [e1]
  rw [List.drop_take,List.drop_drop] at hd
  exact hd
end
end Go.Gv
/- Lists whose elements hold lists: the operations. -/
namespace Go.Gv
open Go Go.Iv
section
variable {β:Type} {P:Program} {hint:Hint} {sh:cr} {Γ Γ1 Γ':bb} {Pu Pu1:Nat→Prop} {H H1:GH} {I I1 I':IH} {K:TV→GH→Option β} {r:β}
theorem Good.after (hs:ar P hint sh Γ Pu H I) (h1:ar P hint sh Γ1 Pu1 H1 I1) (he:Ex (bM Γ H I) Γ Pu H I Γ1 Pu1 H1 I1) {run:Option (Value×IH)} (h:Good P hint sh K r Γ1 Pu1 H1 I1 run):Good P hint sh K r Γ Pu H I run:=by
 obtain ⟨t,H2,Γ2,Pu2,v,I2,a,b,c,d,e⟩:=h
 exact ⟨t,H2,Γ2,Pu2,v,I2,a,b,c,d,Ex.trans hs h1 he e⟩
theorem Nc (hs:ar P hint sh Γ Pu H I) {t:TypeId} {x:TV} {x':Value} (h:Me P H t x K=some r) (hx:GR Γ Pu I x x'):Good P hint sh K r Γ Pu H I (al (Iv.valOf I (fj P I t x'))):=PI hs h hx
theorem su {t:TypeId} {e:Sh} {xs:List e.ty} {nl:Option Bool} {cl:Bool} {ix:TV}:gW dF P sh H t (.aC e xs nl cl) ix K=eV dF P sh H t (.aC e xs nl cl) ix K:=rfl
theorem vk (hs:ar P hint sh Γ Pu H I) {t:TypeId} {x ix:TV} {x' ix':Value} (h:gW dF P sh H t x ix K=some r) (hx:GR Γ Pu I x x') (hi:GR Γ Pu I ix ix'):Good P hint sh K r Γ Pu H I (al (bo P I t x' ix')):=xc hs h hx hi
theorem GC {t:TypeId} {cs:List TV}:tC dF P sh H t (.my cs) K=rE dF P H t (.my cs) K:=rfl
theorem JY (hs:ar P hint sh Γ Pu H I) {t:TypeId} {a:TV} {a':Value} (h:tC dF P sh H t a K=some r) (ha:GR Γ Pu I a a'):Good P hint sh K r Γ Pu H I (al (eg P I t a')):=LV hs h ha
end
end Go.Gv
/- Lists whose elements hold lists: an element's other cells are written. -/
namespace Go.Gv
open Go Go.Iv
section
variable {β:Type} {P:Program} {hint:Hint} {sh:cr} {Γ Γ1 Γ':bb} {Pu Pu1:Nat→Prop} {H H1:GH} {I I1 I':IH} {K:TV→GH→Option β} {r:β}
theorem iS:∀ (vs bs:List Value) (o k:Nat),(k<o∨o+vs.length≤k)→(aI bs o vs)[k]? =bs[k]? :=by
 intro vs
 induction vs with
 |nil=>intro bs o k _;rfl
 |cons v vs ih=>
  intro bs o k h
  simp only [aI]
  simp only [List.length_cons] at h
  rw [ih _ (o+1) k (by omega),List.getElem?_set_ne (by omega)]
theorem bG.plain:∀ {l:List TV} {vs:List Value},l.all QG=true→bG Γ Pu I l vs→bG Γ' Pu1 I' l vs:=by
 intro l vs h
 refine bG.flat ?_
 rw [List.all_eq_true] at h ⊢
 intro t ht
 have:=h t ht
 cases t<;>first |rfl |cases this
theorem Gp (hs:ar P hint sh Γ Pu H I) {t:TypeId} {a x:TV} {a' x':Value} (h:HY dF P H t a x K=some r) (ha:GR Γ Pu I a a') (hx:GR Γ Pu I x x'):Good P hint sh K r Γ Pu H I (al (cO P I t a' x')):=JQ hs h ha hx
end
end Go.Gv
/- Lists whose elements hold lists: new ones. -/
namespace Go.Gv
open Go Go.Iv
section
variable {β:Type} {P:Program} {hint:Hint} {sh:cr} {Γ Γ1 Γ':bb} {Pu Pu1:Nat→Prop} {H H1:GH} {I I1 I':IH} {K:TV→GH→Option β} {r:β}
theorem vd (hs:ar P hint sh Γ Pu H I) {t:TypeId} {eq:Bool} {l c:TV} {l' c':Value} (h:kG dF P sh H t eq l c K=some r) (hl:GR Γ Pu I l l') (hc:GR Γ Pu I c c') (heq:eq=true→l=c):Good P hint sh K r Γ Pu H I (al (bp P I t l' c')):=xq hs h hl hc heq
theorem s8 (hs:ar P hint sh Γ Pu H I) {t:TypeId} {len:Nat} {ps:List (Nat×TV)} {ps':List (Nat×Value)} (h:jl P sh H t len ps K=some r) (hp:Fu Γ Pu I ps ps'):Good P hint sh K r Γ Pu H I (al (bc P I t len ps')):=ux hs h hp
end
end Go.Gv
/- Lists whose elements hold lists: elements without lists are appended. -/
namespace Go.Gv
open Go Go.Iv
section
variable {β:Type} {P:Program} {hint:Hint} {sh:cr} {Γ Γ1 Γ':bb} {Pu Pu1:Nat→Prop} {H H1:GH} {I I1 I':IH} {K:TV→GH→Option β} {r:β}
theorem yk {io vs cs:List Value} {o o' L:Nat} {k:Nat} {n:Nat} (h:(io.drop o').take n=(vs.drop o).take L++cs) (hL:o+L≤vs.length) (hn:k<n):
  io[o'+k]? =if k<L then vs[o+k]? else cs[k - L]? :=by
 have h1:((io.drop o').take n)[k]? =io[o'+k]? :=by rw [List.getElem?_take,if_pos hn,List.getElem?_drop]
 have hl:((vs.drop o).take L).length=L:=by simp;omega
 rw [←h1,h]
 split
 ·rename_i hk
  rw [List.getElem?_append_left (by omega),List.getElem?_take,if_pos hk,List.getElem?_drop]
 ·rw [List.getElem?_append_right (by omega),hl]
theorem Na {io vs:List Value} {a b n:Nat} (h:∀ j,j<n→io[a+j]? =vs[b+j]?):(io.drop a).take n=(vs.drop b).take n:=by
 apply List.ext_getElem?
 intro k
 rw [List.getElem?_take,List.getElem?_take]
 split
 ·rename_i hk;rw [List.getElem?_drop,List.getElem?_drop];exact h k hk
 ·rfl
theorem cq.app {l l':Loc} {et:TypeId} {e:Sh} {no:Nat} {net:TypeId} {ne:Sh} {xs ys:List e.ty} {em:Em} (h:cq Γ Pu I l et e no net ne xs em none) {b o f0:Nat} {et0:TypeId} {ex0 sd0:Bool} {vs cs:List Value} (hp:l.pos=some (b,o)) (hg:I.get b=some (.cells vs et0 f0 ex0 sd0))
  (hy:Row Pu I e ys cs 0) (hyl:cs.length=ys.length*e.sz) (hyn:∀ y∈ys,cN e no ne y= []) (hnil:∀ i,i<ys.length→cs[i*e.sz+no]? =some (.slice none 0 0)) (hne:ys≠ []) (hnesz:0<ne.sz)
  {B o' f':Nat} {ex':Bool} {io:List Value} (hpos:l'.pos=some (B,o')) (hgB:I'.get B=some (.cells io et f' ex' false)) (htot:io.length=l'.tot) (hlen':l'.len=xs.length+ys.length) (hsz':l'.sz=e.sz) (hle:o'+(xs.length+ys.length)*e.sz≤io.length) (hro:dm≤B) (hf:f'≤o')
  (hrow:(io.drop o').take ((xs.length+ys.length)*e.sz)=(vs.drop o).take (xs.length*e.sz)++cs) (hI:∀ c i,NB I l e.sz no none c i→I'.get c=I.get c) (hBn:∀ c i,NB I l e.sz no none c i→c≠B) (hk:cy Γ Pu I Γ' Pu I'):
  cq Γ' Pu I' l' et e no net ne (xs++ys) em none∧∀ c i,NB I' l' e.sz no none c i→NB I l e.sz no none c i:=by
 obtain ⟨h1,h2,h3,h4,h5 |⟨b1,o1,vs1,f1,ex1,hp1,he,hg1,ht,hle1,hro1,hf1,hx,hin,hh,hd,hself⟩⟩:=h
 ·rw [h5.1] at hp;cases hp
 ·cases hp.symm.trans hp1
  cases hg.symm.trans hg1
  have k1:=(qy h4).1
  have mulx:∀ i,i<xs.length→i*e.sz+e.sz≤xs.length*e.sz:=fun i hi=>by
   have:(i+1)*e.sz≤xs.length*e.sz:=Nat.mul_le_mul_right _ hi
   rw [Nat.add_mul,Nat.one_mul] at this;exact this
  have muly:∀ i,i<ys.length→i*e.sz+e.sz≤ys.length*e.sz:=fun i hi=>by
   have:(i+1)*e.sz≤ys.length*e.sz:=Nat.mul_le_mul_right _ hi
   rw [Nat.add_mul,Nat.one_mul] at this;exact this
  have hadd:(xs.length+ys.length)*e.sz=xs.length*e.sz+ys.length*e.sz:=Nat.add_mul ..
  have ats:∀ i j,i<xs.length→j<e.sz→io[o'+i*e.sz+j]? =vs[o+i*e.sz+j]? :=fun i j hi hj=>by
   have:=mulx i hi
   rw [show o'+i*e.sz+j=o'+(i*e.sz+j) by omega,yk hrow hle1 (by omega),if_pos (by omega),Nat.add_assoc]
  have aty:∀ i j,i<ys.length→j<e.sz→io[o'+(xs.length+i)*e.sz+j]? =cs[i*e.sz+j]? :=fun i j hi hj=>by
   have:=muly i hi
   have h7:(xs.length+i)*e.sz=xs.length*e.sz+i*e.sz:=Nat.add_mul ..
   rw [show o'+(xs.length+i)*e.sz+j=o'+(xs.length*e.sz+i*e.sz+j) by omega,yk hrow hle1 (by omega),if_neg (by omega)]
   congr 1
   omega
  have nb:∀ c i,NB I' l' e.sz no none c i→NB I l e.sz no none c i:=by
   rintro c i ⟨q1,q2,b0,o0,vs0,et1,f2,ex2,sd2,q3,q4,q5⟩
   cases hpos.symm.trans q3
   cases hgB.symm.trans q4
   by_cases hi:i<xs.length
   ·rw [ats i no hi k1] at q5
    exact ⟨q1,by omega,_,_,_,_,_,_,_,hp,hg,q5⟩
   ·have hi2:i - xs.length<ys.length:=by omega
    have:=aty (i - xs.length) no hi2 k1
    rw [show xs.length+(i - xs.length)=i by omega,hnil _ hi2] at this
    rw [this] at q5
    cases q5
  refine ⟨⟨by rw [hlen',List.length_append],hsz',h3,h4,.inr ⟨B,o',io,f',ex',hpos,fun _ h=>hne (List.append_eq_nil_iff.1 h).2,hgB,htot,by rw [List.length_append];exact hle,hro,hf,fun i x hi=>?_,fun i x v hi _ hv=>?_,(fun i n x h=>by cases h),fun i j c hi hj=>hd i j c (nb c i hi) (nb c j hj),fun i hi=>hBn B i (nb B i hi) rfl⟩⟩,nb⟩
  ·by_cases hi2:i<xs.length
   ·rw [List.getElem?_append_left hi2] at hi
    rw [Na (vs:=vs) (b:=o+i*e.sz) fun j hj=>ats i j hi2 hj]
    exact (hx i x hi).mono hk
   ·rw [List.getElem?_append_right (by omega)] at hi
    have hi3:i - xs.length<ys.length:=(List.getElem?_eq_some_iff.1 hi).1
    have hen:=hy (i - xs.length) x hi
    rw [Nat.zero_add] at hen
    have hcut:(io.drop (o'+i*e.sz)).take e.sz=(cs.drop ((i - xs.length)*e.sz)).take e.sz:=Na fun j hj=>by
     have:=aty (i - xs.length) j hi3 hj
     rwa [show xs.length+(i - xs.length)=i by omega] at this
    rw [hcut]
    have hen2:=(hen.mono hk.p hk.i).cZ (Γ:=Γ')
    have hrl:=hen.len
    have hv:((cs.drop ((i - xs.length)*e.sz)).take e.sz)[no]? =some ((cs.drop ((i - xs.length)*e.sz)).take e.sz)[no]:=List.getElem?_eq_getElem (by omega)
    have:=hen2.set no (.undef ((cs.drop ((i - xs.length)*e.sz)).take e.sz)[no])
    rw [uA hv] at this
    exact this
  ·by_cases hi2:i<xs.length
   ·rw [List.getElem?_append_left hi2] at hi
    rw [ats i no hi2 k1] at hv
    obtain ⟨l2,a1,a2⟩:=hin i x v hi (by simp) hv
    refine ⟨l2,a1.mono (fun _ h=>h) hk.i fun c x' hp'=>hI c i ⟨by simp,by omega,_,_,_,_,_,_,_,hp,hg,?_⟩,a2⟩
    unfold eU at a2
    rw [hp'] at a2
    obtain ⟨cap,rfl,_⟩:=a2
    rw [hv];rfl
   ·rw [List.getElem?_append_right (by omega)] at hi
    have hi3:i - xs.length<ys.length:=(List.getElem?_eq_some_iff.1 hi).1
    have:=aty (i - xs.length) no hi3 k1
    rw [show xs.length+(i - xs.length)=i by omega,hnil _ hi3,hv] at this
    cases this
    have hnl:=hyn x (List.mem_of_getElem? hi)
    exact ⟨⟨none,0,ne.sz,0⟩,⟨by rw [hnl];rfl,rfl,hnesz,.inl ⟨rfl,hnl,by simp⟩⟩,⟨rfl,rfl⟩⟩
theorem cq.row {l:Loc} {et:TypeId} {e:Sh} {no:Nat} {net:TypeId} {ne:Sh} {xs:List e.ty} {em:Em} (h:cq Γ Pu I l et e no net ne xs em none) (hx:∀ x∈xs,cN e no ne x= []) (hne:xs≠ []):
  ∃ b o vs f ex,l.pos=some (b,o)∧I.get b=some (.cells vs et f ex false)∧o+xs.length*e.sz≤vs.length∧Row Pu I e xs vs o∧∀ i,i<xs.length→vs[o+i*e.sz+no]? =some (.slice none 0 0):=by
 obtain ⟨h1,h2,h3,h4,h5 |⟨b,o,vs,f,ex,hp,he,hg2,ht,hle,hro,hf,hx1,hy,hh,hd,hself⟩⟩:=h
 ·exact absurd h5.2.1 hne
 ·obtain ⟨k1,k2⟩:=qy h4
  have hnil:∀ i,i<xs.length→vs[o+i*e.sz+no]? =some (.slice none 0 0):=fun i hi=>by
   have hxi:xs[i]? =some xs[i]:=List.getElem?_eq_getElem hi
   have:(i+1)*e.sz≤xs.length*e.sz:=Nat.mul_le_mul_right _ hi
   rw [Nat.add_mul] at this
   have hv:vs[o+i*e.sz+no]? =some vs[o+i*e.sz+no]:=List.getElem?_eq_getElem (by omega)
   obtain ⟨l',a1,a2⟩:=hy i _ _ hxi (by simp) hv
   have hz:=hx _ (List.getElem_mem hi)
   rw [hz] at a1
   have hp':=a1.isNil a2 rfl
   unfold eU at a2
   rw [hp'] at a2
   rw [hv,a2.1]
  refine ⟨b,o,vs,f,ex,hp,hg2,hle,fun i x hi=>?_,hnil⟩
  have hil:i<xs.length:=(List.getElem?_eq_some_iff.1 hi).1
  have hz:=hx x (List.mem_of_getElem? hi)
  obtain ⟨g1,_,_⟩:=k2 x
  rw [hz] at g1
  have hk:((vs.drop (o+i*e.sz)).take e.sz)[no]? =some (.slice none 0 0):=by
   rw [List.getElem?_take,if_pos k1,List.getElem?_drop];exact hnil i hil
  have a7:GR Γ Pu I (.aC ne ([]:List ne.ty) none false) (.slice none 0 0):= .aC (.inl ⟨rfl,rfl⟩) (fun c hc=>by cases hc) (fun hc=>by cases hc)
  have a6:=(hx1 i x hi).set no a7
  rw [List.set_set,uA hk] at a6
  have b1:(e.cZ x).set no (.aC ne [] none false)=e.cZ x:=uA g1
  rw [b1] at a6
  exact Sh.eE (Sh.zq x) a6
theorem Ed (hs:ar P hint sh Γ Pu H I) {argTypes:Array TypeId} {s x:TV} {s' x':Value} (h:DZ dF P sh H argTypes s x K=some r) (hsr:GR Γ Pu I s s') (hxr:GR Γ Pu I x x'):Good P hint sh K r Γ Pu H I (al (gd P I argTypes s' x')):=GZ hs h hsr hxr
end
end Go.Gv
