/- The pure evaluator's code, calls, levels are the ideal one's. -/
import Derived.Test.YteknbnkjelmfaaaGreatDoorGvJoin
set_option linter.unusedSimpArgs false
set_option linter.unusedVariables false
namespace Go.Gv
open Go Go.Iv
section
variable {β:Type} {P:Program} {hint:Hint} {O:Nat->Prop} {Γ Γ1:bj} {Pu Pu1:Nat->Prop} {H H1:GH} {I I1 I2:IH} {r:β} {sf:fD β} {self:Self} {sh:cz}
theorem aE.PE (hs:aE P hint sh Γ Pu H I) (io:bw):aE P hint sh Γ Pu H (I.new io)/\Ex (bT Γ H I) Γ Pu H I Γ Pu H (I.new io):=by
 have getold:∀ b,b<I.n->(I.new io).get b=I.get b:=fun b hb=>by rw [IH.aG,if_neg (Nat.ne_of_lt hb)]
 have hk:db Γ Pu I Γ Pu (I.new io):=⟨fun _ _ h=>h,fun _ h=>h,fun b hb=>getold b (hs.mq hb)⟩;have hpos:∀ id o l b x,H.get id=some o->o.dw=true->Γ id=some l->l.pos=some (b,x)->(I.new io).get b=I.get b:=fun id o l b x hg hm hl hp=>getold b (hs.dx (.pos hg hm hl hp))
 refine ⟨⟨?_,hs.M0 hpos,fun b h=>hs.sep b (pq hpos h),hs.bm,?_,?_,Nat.le_succ_of_le hs.ro,hs.gn,hs.cB,hs.st,hs.qQ hk.p hk.i⟩,⟨fun _ _ h=>h,zam _,Nat.le_succ _,fun _ h=>h,fun b hb _=>getold b hb,fun b _ h=>pq hpos h,fun _ _ h=> .inl h,zam _,fun _ _=> .inr (.inl rfl),?_⟩⟩
 ·intro id o hg
  obtain ⟨l,hl,_⟩:=hs.obj id o hg;exact ⟨l,hl,hs.eB hk hg hl fun hm b hat=>getold b (hs.dx ⟨id,o,l,hg,hm,hl,hat⟩)⟩
 ·intro b hb
  have hb':I.n+1<=b:=hb;rw [IH.aG,if_neg (by omega)];exact hs.fresh b (by omega)
 ·intro b hb
  obtain ⟨cs,et,fz,ex,sd,hg⟩:=hs.pu b hb;exact ⟨cs,et,fz,ex,sd,(getold b (hs.lt hg)).trans hg⟩
 ·intro id l b x s h1 _ hl hp
  exact hs.eU hk h1 hl hp fun o hg hm=>hpos id o l b x hg hm hl hp
theorem aE.R2 (hs:aE P hint sh Γ Pu H I) {b:Nat} {o o':Bool} (hb:I.get b=some (.mN o)) (id:Nat) (ob:bH) (l:Loc) (b2 x:Nat) (hg:H.get id=some ob) (_:ob.dw=true) (hl:Γ id=some l) (hp:l.pos=some (b2,x)):(I.put b (.mN o')).get b2=I.get b2:=by
 have hno:=hs.DY hb;have hnp:¬ Pu b:=fun h=>by obtain ⟨cs,et,fz,ex,sd,hg⟩:=hs.pu b h;rw [hb] at hg;cases hg
 rw [IH.an,if_neg (by rintro rfl;exact hs.pO hno hnp hg hl hp)]
theorem aE.mark (hs:aE P hint sh Γ Pu H I) {b:Nat} {o o':Bool} (hb:I.get b=some (.mN o)):aE P hint sh Γ Pu H (I.put b (.mN o')):=by
 have hno:=hs.DY hb;have hnp:¬ Pu b:=fun h=>by obtain ⟨cs,et,fz,ex,sd,hg⟩:=hs.pu b h;rw [hb] at hg;cases hg
 have hk:db Γ Pu I Γ Pu (I.put b (.mN o')):=⟨fun _ _ h=>h,fun _ h=>h,fun b' hb'=>by rw [IH.an,if_neg (by rintro rfl;exact hnp hb')]⟩;have hpos:∀ id o l b2 x,H.get id=some o->o.dw=true->Γ id=some l->l.pos=some (b2,x)->(I.put b (.mN o')).get b2=I.get b2:=fun id o l b2 x hg hm hl hp=>by rw [IH.an,if_neg (by rintro rfl;exact hs.pO hno hnp hg hl hp)]
 refine ⟨?_,hs.M0 hpos,fun b h=>hs.sep b (pq hpos h),hs.bm,?_,?_,hs.ro,hs.gn,hs.cB,hs.st,hs.qQ hk.p hk.i⟩
 ·intro id ob hg
  obtain ⟨l,hl,ho⟩:=hs.obj id ob hg;exact ⟨l,hl,ho.mono hk fun b' hat=>by rw [IH.an,if_neg (by rintro rfl;exact hs.hX hno hnp hg hl hat)]⟩
 ·intro b' hb'
  rw [IH.an,if_neg (by rintro rfl;rw [hs.fresh b' hb'] at hb;cases hb)];exact hs.fresh b' hb'
 ·intro b' hb'
  obtain ⟨cs,et,fz,ex,sd,hg⟩:=hs.pu b' hb';exact ⟨cs,et,fz,ex,sd,(hk.i b' hb').trans hg⟩
theorem Ex.mark (hs:aE P hint sh Γ Pu H I) (h:Ex O Γ Pu H I Γ1 Pu1 H1 I1) {b:Nat} {o:Bool} (hb:I.n<=b) (hpos:∀ id o' l b2 x,H1.get id=some o'->o'.dw=true->Γ1 id=some l->l.pos=some (b2,x)->(I1.put b (.mN o)).get b2=I1.get b2):Ex O Γ Pu H I Γ1 Pu1 H1 (I1.put b (.mN o)):=
 ⟨h.g,h.hn,h.n,h.p,fun b' hb' ho=>by rw [IH.an,if_neg (by omega)];exact h.cQ b' hb' ho,(fun b' hb' ho=>h.own b' hb' (pq hpos ho)),h.pn,h.ck,h.Cz,fun id l b' x s h1 h2 hl hp=>by
  obtain ⟨ob,hg⟩:=GH.ig h1;have:b'<I.n:=by
   obtain ⟨l',hl',ho⟩:=hs.obj id ob hg;cases hl.symm.trans hl';obtain ⟨io,hio⟩:=ho.Dl (.inl ⟨x,hp⟩);exact hs.lt hio
  rw [IH.an,if_neg (by omega)];exact h.lh id l b' x s h1 h2 hl hp⟩
def Yq (I:IH):Option Nat->Nat
 |none=>I.n+1
 |some _=>I.n
def Yi (I:IH) (D:List Deferred):Option Nat->List Deferred
 |none=>{ target:= .collected I.n,args:=#[] }::D
 |some _=>D
noncomputable def Yr (I:IH):Option Nat->IH
 |none=>I.new (.mN true)
 |some _=>I
theorem Vm:∀ {a b:List Nat},a.map (fun r=>({ target:= .collected r,args:=#[] }:Deferred))=b.map (fun r=>({ target:= .collected r,args:=#[] }:Deferred))->a=b:=by
 intro a
 induction a with
 |nil=>intro b h;cases b with
  |nil=>rfl
  |cons=>cases h
 |cons x a ih=>
  intro b h;cases b with
  |nil=>cases h
  |cons y b=>
   simp only [List.map_cons,List.cons.injEq] at h;obtain ⟨h1,h2⟩:=h;have:x=y:=by injection h1 with h1;injection h1
   rw [this,ih h2]
theorem dC.ret (hs:aE P hint sh Γ Pu H I) {K:X->GE->GH->Option β} {x:X} {E:GE} {E':En} {n0:Nat} {ro:Option Nat} {D:List Deferred} (h:K x E H=some r) (he:ER Γ Pu I E E') (hd:DB n0 I D):dC P hint sh K r Γ Pu H I n0 ro D (some (x,E',I,D)):=
 ⟨x,E,H,Γ,Pu,E',I,D,h,rfl,he,hs,Ex.refl hs,hd,fun _=>rfl⟩
theorem Qo (ok:fL P hint sh sf self) {bM:Nat} {fi:FI} {ro ro':Option Nat}:∀ {c:Code} {E:GE} {E':En} {H:GH} {I:IH} {Γ:bj} {Pu:Nat->Prop} {n0:Nat} {D:List Deferred} {K:X->GE->GH->Option β},
  gC stx P sh sf bM fi ro c E H K=some r->aE P hint sh Γ Pu H I->ER Γ Pu I E E'->NI P hint bM fi c->NJ Γ ro ro'->DB n0 I D->n0<=I.n->dC P hint sh K r Γ Pu H I n0 ro D (aK P self fi ro' c E' I D):=by
 intro c
 induction c with
 |skip=>intro E E' H I Γ Pu n0 D K h hs he hf hr hd hn;exact dC.ret hs h he hd
 |label l=>intro E E' H I Γ Pu n0 D K h hs he hf hr hd hn;exact dC.ret hs h he hd
 |exit id=>intro E E' H I Γ Pu n0 D K h hs he hf hr hd hn;exact dC.ret hs h he hd
 |ret=>intro E E' H I Γ Pu n0 D K h hs he hf hr hd hn;exact dC.ret hs h he hd
 |goto l=>intro E E' H I Γ Pu n0 D K h hs he hf hr hd hn;cases h
 |refuse w=>intro E E' H I Γ Pu n0 D K h hs he hf hr hd hn;cases h
 |region id ops dr=>
  intro E E' H I Γ Pu n0 D K h hs he hf hr hd hn;cases dr with
  |false=>
   simp only [gC] at h;split at h
   ·rename_i d hj
    obtain ⟨j1,j2⟩:=IL hj;simp only [stx] at h;cases hb:r9 ek P sh DH fi ops ops.toList E.reset H (fun E _=>yb (fa fi E d)) with
    |none=>rw [hb] at h;cases h
    |some b=>
     rw [hb] at h;simp only [zaa] at h
     have hcong:=Jh (P:=P) (sh:=sh) (sf:=DH) (H:=H) (fi:=fi) (ops:=ops) (E0:=E.reset) (d:=d) (fun o ho=>(j1 o ho).2)
      (K1:=fun E _=>yb (fa fi E d)) (K2:=fun E1 H1=>@ite _ (H1=H/\∀ t,(cls fi d= .loc->t≠d)->eX E1.loc t=eX E.loc t) (Classical.propDecidable _) (yb (fa fi E1 d)) none)
      (fun E1 h1=>by rw [if_pos ⟨rfl,h1⟩]) ops.toList E.reset j1 (fun _ _=>rfl)
     rw [hcong] at hb;obtain ⟨E1,H1,Γ1,Pu1,E1',I1,k1,k2,k3,k4,k5⟩:=Sp (ro:=ro') (D:=D) (MT (self:=self)) hb hs he.reset;by_cases hq:H1=H/\∀ t,(cls fi d= .loc->t≠d)->eX E1.loc t=eX E.loc t
     ·rw [if_pos hq] at k1
      obtain ⟨rfl,hloc⟩:=hq;have hv:fa fi E1 d= .bool b:=by
       unfold yb at k1;split at k1
       ·rename_i hh;cases k1;exact hh
       ·cases k1
      refine ⟨.normal,cN fi d (.bool b) E.reset,H1,Γ1,Pu1,E1',I1,D,h,k2,?_,k4,k5,hd.ex hs k5,fun _=>rfl⟩;rcases j2 with j2 |j2
      ·have hE:cN fi d (.bool b) E.reset=⟨nf E.loc d (.bool b),.e⟩:=by unfold cN;rw [j2];rfl
       have hv:eX E1.loc d= .bool b:=by unfold fa at hv;rw [j2] at hv;exact hv
       rw [hE];intro t;refine ⟨?_,.undef _⟩
       show GR Γ1 Pu1 I1 (eX (nf E.loc d (.bool b)) t) (lk E1'.loc t)
       rw [fx];split
       ·rename_i ht;subst ht;rw [←hv];exact (k3 t).1
       ·rename_i ht;rw [←hloc t fun _=>ht];exact (k3 t).1
      ·have hE:cN fi d (.bool b) E.reset=⟨E.loc,.c d (.bool b) .e⟩:=by unfold cN;rw [j2];rfl
       have hv:eX E1.tmp d= .bool b:=by unfold fa at hv;rw [j2] at hv;exact hv
       rw [hE];intro t;have hld:∀ t,eX E1.loc t=eX E.loc t:=fun t=>hloc t fun hh=>by rw [j2] at hh;cases hh
       refine ⟨by rw [←hld t];exact (k3 t).1,?_⟩
       show GR Γ1 Pu1 I1 (eX (.c d (.bool b) .e) t) (lk E1'.tmp t)
       simp only [eX];cases hbq:Nat.beq d t with
       |true=>rw [←Nat.eq_of_beq_eq_true hbq,←hv];exact (k3 d).2
       |false=>exact .undef _
     ·rw [if_neg hq] at k1;cases k1
   ·obtain ⟨E1,H1,Γ1,Pu1,E1',I1,k1,k2,k3,k4,k5⟩:=Px (ro:=ro') (D:=D) ok _ (zam _) h hs he.reset
    exact ⟨.normal,E1,H1,Γ1,Pu1,E1',I1,D,k1,k2,k3,k4,k5,hd.ex hs k5,fun _=>rfl⟩
  |true=>
   obtain ⟨E1,H1,Γ1,Pu1,E1',I1,k1,k2,k3,k4,k5⟩:=NO (D:=D) ok h hs he.reset;exact ⟨.normal,E1,H1,Γ1,Pu1,E1',I1,D,k1,k2,k3,k4,k5,hd.ex hs k5,fun _=>rfl⟩
 |seq a b iha ihb=>
  intro E E' H I Γ Pu n0 D K h hs he hf hr hd hn;obtain ⟨x,E1,H1,Γ1,Pu1,E1',I1,D1,k1,k2,k3,k4,k5,k6,k7⟩:=iha h hs he (hf.sub (.Rz (.refl _))) hr hd hn;cases x with
  |normal=>
   obtain ⟨x,E2,H2,Γ2,Pu2,E2',I2,D2,j1,j2,j3,j4,j5,j6,j7⟩:=ihb k1 k4 k3 (hf.sub (.Ph (.refl _))) (hr.mono k5.g) k6 (Nat.le_trans hn k5.n);exact ⟨x,E2,H2,Γ2,Pu2,E2',I2,D2,j1,by simp only [aK,k2,j2],j3,j4,Ex.trans hs k4 k5 j5,j6,fun h=>(j7 h).trans (k7 h)⟩
  |exit id=>exact ⟨_,E1,H1,Γ1,Pu1,E1',I1,D1,k1,by simp only [aK,k2],k3,k4,k5,k6,k7⟩
  |ret=>exact ⟨_,E1,H1,Γ1,Pu1,E1',I1,D1,k1,by simp only [aK,k2],k3,k4,k5,k6,k7⟩
  |panic v=>exact ⟨_,E1,H1,Γ1,Pu1,E1',I1,D1,k1,by simp only [aK,k2],k3,k4,k5,k6,k7⟩
 |cond c a b iha ihb=>
  intro E E' H I Γ Pu n0 D K h hs he hf hr hd hn;have hc:=cb (fi:=fi) hs he c;simp only [gC] at h;split at h
  ·rename_i t ht
   rw [ht] at hc;unfold dC;simp only [aK];have OS:∀ b,dF fi E' c= .bool b->ER Γ Pu I (K0 fi c b E) E':=fun b hb=>by
    unfold K0;split
    ·rename_i k
     refine he.OS k fi ?_;have:eZ fi E' k= .bool b:=hb;rw [this];exact .bool _
    ·exact he
   generalize hcv:dF fi E' c=cv at hc;cases hc;rcases jX h with ⟨rfl,h⟩ |⟨rfl,h⟩
   ·exact iha h hs (OS _ hcv) (hf.sub (.FQ (.refl _))) hr hd hn
   ·exact ihb h hs (OS _ hcv) (hf.sub (.Fx (.refl _))) hr hd hn
  ·cases h
 |block id c ih=>
  intro E E' H I Γ Pu n0 D K h hs he hf hr hd hn;obtain ⟨x,E1,H1,Γ1,Pu1,E1',I1,D1,k1,k2,k3,k4,k5,k6,k7⟩:=ih h hs he (hf.sub (.block (.refl _))) hr hd hn;cases x with
  |normal=>exact ⟨_,E1,H1,Γ1,Pu1,E1',I1,D1,k1,by simp only [aK,k2],k3,k4,k5,k6,k7⟩
  |ret=>exact ⟨_,E1,H1,Γ1,Pu1,E1',I1,D1,k1,by simp only [aK,k2],k3,k4,k5,k6,k7⟩
  |panic v=>exact ⟨_,E1,H1,Γ1,Pu1,E1',I1,D1,k1,by simp only [aK,k2],k3,k4,k5,k6,k7⟩
  |exit j=>
   simp only at k1;by_cases hj:j=id
   ·subst hj
    rw [Nat.beq_refl] at k1;exact ⟨_,E1,H1,Γ1,Pu1,E1',I1,D1,k1,by simp only [aK,k2,if_true],k3,k4,k5,k6,k7⟩
   ·rw [gN hj] at k1
    exact ⟨_,E1,H1,Γ1,Pu1,E1',I1,D1,k1,by simp only [aK,k2,if_neg hj],k3,k4,k5,k6,k7⟩
 |scope c ih=>
  intro E E' H I Γ Pu n0 D K h hs he hf hr hd hn;exact ih h hs he (hf.sub (.scope (.refl _))) hr hd hn
 |loop c ih=>
  intro E E' H I Γ Pu n0 D K h hs he hf hr hd hn;rcases ok.loop h hs he hf hr hd hn with h |h
  ·obtain ⟨x,E1,H1,Γ1,Pu1,E1',I1,D1,k1,k2,k3,k4,k5,k6,k7⟩:=ih h hs he (hf.sub (.loop (.refl _))) hr hd hn
   cases x with
   |normal=>
    obtain ⟨x,E2,H2,Γ2,Pu2,E2',I2,D2,j1,j2,j3,j4,j5,j6,j7⟩:=ok.code k1 k4 k3 hf (hr.mono k5.g) k6 (Nat.le_trans hn k5.n);exact ⟨x,E2,H2,Γ2,Pu2,E2',I2,D2,j1,by simp only [aK,k2,j2],j3,j4,Ex.trans hs k4 k5 j5,j6,fun h=>(j7 h).trans (k7 h)⟩
   |exit id=>exact ⟨_,E1,H1,Γ1,Pu1,E1',I1,D1,k1,by simp only [aK,k2],k3,k4,k5,k6,k7⟩
   |ret=>exact ⟨_,E1,H1,Γ1,Pu1,E1',I1,D1,k1,by simp only [aK,k2],k3,k4,k5,k6,k7⟩
   |panic v=>exact ⟨_,E1,H1,Γ1,Pu1,E1',I1,D1,k1,by simp only [aK,k2],k3,k4,k5,k6,k7⟩
  ·exact h
 |rangeFunc f ps dV body iha ihb=>
  intro E E' H I Γ Pu n0 D K h hs he hf hr hd hn;have hfo:=cb (fi:=fi) hs he f;simp only [gC] at h;replace h:=ae h;obtain ⟨hlo,h⟩:=h;split at h
  ·rename_i g first captured hfe
   rw [hfe] at hfo
   have pre:∃ I0 D0 lv,aE P hint sh Γ Pu H I0/\Ex (bT Γ H I) Γ Pu H I Γ Pu H I0/\DB n0 I0 D0/\lv=I0.n/\(ro.isSome=true->D0=D)/\
     (wa I ro'=true)/\Yq I ro'=lv/\Yi I D ro'=D0/\Yr I ro'=I0:=by
    rcases hr with ⟨rfl,rfl⟩ |⟨l,b,loc,rfl,rfl,hl,hp⟩
    ·obtain ⟨s0,e0⟩:=hs.PE (.mN true)
     refine ⟨I.new (.mN true),_,_,s0,e0,?_,rfl,(fun h=>by cases h),rfl,rfl,rfl,rfl⟩;obtain ⟨ds,d1,d2,d3⟩:=hd.ex hs e0;obtain ⟨ds',d1',d2',d3'⟩:=hd;have hds:ds=ds':=Vm (d2.symm.trans d2');subst hds;refine ⟨I.n::ds,List.nodup_cons.2 ⟨fun hm=>?_,d1⟩,by rw [d2];rfl,fun r hr=>?_⟩
     ·have:=(d3' _ hm).2.2
      rw [hs.fresh _ (zam _)] at this;cases this
     ·rcases List.mem_cons.1 hr with rfl |hr
      ·exact ⟨hs.ro,hn,by rw [IH.aG,if_pos rfl]⟩
      ·exact d3 r hr
    ·refine ⟨I,D,_,hs,Ex.refl hs,hd,rfl,fun _=>rfl,?_,rfl,rfl,rfl⟩
     simp only at hlo;split at hlo
     ·rename_i hg
      obtain ⟨l',hl',ho⟩:=hs.obj _ _ hg;cases hl.symm.trans hl';obtain ⟨b',F',hp',_,hgb,_⟩:=ho;cases hp.symm.trans hp';simp only [wa,hgb]
     ·cases hlo
   obtain ⟨I0,D0,lv,s0,e0,d0,hlv,hDro,hla,q1,q2,q3⟩:=pre;have he0:=he.mono (e0.de hs)
   obtain ⟨s1,e1⟩:=s0.new (.loop bM .ready none fi E ps.toList dV body) (.loop .ready none fi E' ps.toList dV body) ⟨some (I0.n,0),0,0,0⟩ 0 rfl
    ⟨I0.n,E',rfl,s0.ro,by rw [IH.aG,if_pos rfl],he0.mono (pH s0 _ _),f,ps,hf,rfl⟩
   have hup:(Γ.up H.n ⟨some (I0.n,0),0,0,0⟩) H.n=some ⟨some (I0.n,0),0,0,0⟩:=by simp [bj.up]
   have e01:=Ex.trans hs s0 e0 e1;generalize hov:dF fi E' f=fv at hfo;cases hfo with |fn ra rc=>
   rename_i first' captured';have hargs:=((ra.mono (e01.de hs)).append (bI.cons (GR.mI hup rfl) .nil)).append (rc.mono (e01.de hs));obtain ⟨t,H2,Γ2,Pu2,v,I2,k1,k2,k3,k4,k5⟩:=ok.call h s1 hargs;simp only at k1;split at k1
   ·rename_i fid2 st pd fi2 E2 ps2 asg2 body2 hg2
    cases hbz:(st==LoopState.busy) with
    |true=>rw [hbz] at k1;cases k1
    |false=>
     rw [hbz] at k1;simp only [zab] at k1;obtain ⟨l2,hl2,ho2⟩:=k4.obj _ _ hg2;cases (k5.g _ _ hup).symm.trans hl2;obtain ⟨b2,E2',hp2,hro2,hgb2,hE2,hi5⟩:=ho2;cases hp2
     have hke:db Γ2 Pu2 I2 Γ2 Pu2 (I2.put I0.n (.loop .exhausted pd fi2 E2' ps2 asg2 body2)):=
      ⟨fun _ _ h=>h,fun _ h=>h,fun b' hb'=>by rw [IH.an,if_neg (by rintro rfl;exact k4.sep _ (.pos hg2 rfl hl2 rfl) hb')]⟩
     obtain ⟨s3,e3⟩:=k4.jK hg2 rfl hl2 rfl (.loop fid2 .exhausted pd fi2 E2 ps2 asg2 body2) (.loop .exhausted pd fi2 E2' ps2 asg2 body2)
      ⟨I0.n,E2',rfl,hro2,by rw [IH.an,if_pos rfl],hE2.mono hke,hi5⟩
     have eall:=Ex.trans hs s1 e01 (Ex.trans s1 k4 k5 e3);have dall:DB n0 (I2.put I0.n (.loop .exhausted pd fi2 E2' ps2 asg2 body2)) D0:=d0.ex s0 (Ex.trans s0 s1 e1 (Ex.trans s1 k4 k5 e3));have heall:=he.mono (eall.de hs);have hev:∀ x,(match pd with |none=>some (X.normal,E',I2.put I0.n (.loop .exhausted pd fi2 E2' ps2 asg2 body2),D0) |some .ret=>some (.ret,E',I2.put I0.n (.loop .exhausted pd fi2 E2' ps2 asg2 body2),D0) |some (.exit id)=>some (.exit id,E',I2.put I0.n (.loop .exhausted pd fi2 E2' ps2 asg2 body2),D0) |_=>none)=some x->aK P self fi ro' (.rangeFunc f ps dV body) E' I D=some x:=by
      intro x hx;have k2':self.call g (first'++ [Value.func (.yield I0.n) #[] #[]]++captured') (I0.new (.loop .ready none fi E' ps.toList dV body))=some (.returned v,I2):=k2;rcases hr with ⟨rfl,rfl⟩ |⟨l,b,loc,rfl,rfl,hl,hp⟩
      ·have q1':I.n+1=I0.n:=q1.trans hlv
       have q2':({ target:= .collected I.n,args:=#[] }:Deferred)::D=D0:=q2;have q3':I.new (.mN true)=I0:=q3;simp only [aK,hla,zag,Bool.false_eq_true,if_false,hov,q1',q2',q3',k2',hgb2,hbz];exact hx
      ·have q1':I.n=I0.n:=q1.trans hlv
       have q2':D=D0:=q2;have q3':I=I0:=q3;have hla':wa I0 (some b)=true:=q3'▸hla;simp only [aK,hla',zag,Bool.false_eq_true,if_false,hov,q2',q3',k2',hgb2,hbz];exact hx
     split at k1
     ·exact ⟨_,E,_,_,_,E',_,D0,k1,hev _ rfl,heall,s3,eall,dall,hDro⟩
     ·exact ⟨_,E,_,_,_,E',_,D0,k1,hev _ rfl,heall,s3,eall,dall,hDro⟩
     ·exact ⟨_,E,_,_,_,E',_,D0,k1,hev _ rfl,heall,s3,eall,dall,hDro⟩
     ·cases k1
   ·cases k1
  ·cases h
theorem S9 (hs:aE P hint sh Γ Pu H I) {fi:FI} {E:GE} {E':En} (he:ER Γ Pu I E E') {rv:ResultVar} {t:TV} (h:Tx P fi E H rv=some t):∃ v,fU P fi E' I rv=some v/\GR Γ Pu I t v:=by
 cases rv with
 |tmp d=>
  unfold Tx at h;cases h;exact ⟨_,rfl,cb (fi:=fi) hs he (.tmp d)⟩
 |cell a ty=>
  unfold Tx at h;have hv:=cb (fi:=fi) hs he (.tmp a);simp only at h;split at h
  ·rename_i id off ha
   have hv':GR Γ Pu I (fa fi E a) (eZ fi E' a):=hv;rw [ha] at hv';generalize hov:eZ fi E' a=av at hv';cases hv' with |ptr hl hp=>
   split at h
   ·rename_i et cs w hg
    replace h:=ae h;obtain ⟨hb,h⟩:=h;obtain ⟨l',hl',ho⟩:=hs.obj id _ hg;cases hl.symm.trans hl';obtain ⟨b',vs,fz,ex,sd,hp',hgb,hr,_,_⟩:=ho;cases hp.symm.trans hp';obtain ⟨q1,q2⟩:=hr.whole off (aM hb);obtain ⟨v,hv,hrv⟩:=lU (P:=P) (t:=ty) hgb q1 q2 h;exact ⟨v,by simp only [fU,hov];exact hv,hrv⟩
   ·cases h
  ·cases h
theorem Qj (hs:aE P hint sh Γ Pu H I) {fi:FI} {E:GE} {E':En} (he:ER Γ Pu I E E'):∀ {rs:List ResultVar} {ts:List TV},xz P fi E H rs=some ts->∃ vs,rs.mapM (fU P fi E' I)=some vs/\bI Γ Pu I ts vs:=by
 intro rs
 induction rs with
 |nil=>intro ts h;unfold xz at h;cases h;exact ⟨[],rfl,.nil⟩
 |cons rv rs ih=>
  intro ts h;unfold xz at h;split at h
  ·rename_i t ts' h1 h2
   cases h;obtain ⟨v,e1,r1⟩:=S9 hs he h1;obtain ⟨vs,e2,r2⟩:=ih h2;exact ⟨v::vs,by simp [List.mapM_cons,e1,e2],.cons r1 r2⟩
  ·cases h
theorem N9 {fi:FI} {fn:Func} {T:En} {n0:Nat}:∀ {ds:List Nat} {I:IH} {Γ0:bj} {Pu0:Nat->Prop} {H0:GH} {I0:IH},ds.Nodup->(∀ r∈ds,dA<=r/\n0<=r/\I.get r=some (.mN true))->aE P hint sh Γ Pu H I->aE P hint sh Γ0 Pu0 H0 I0->I0.n<=n0->Ex O Γ0 Pu0 H0 I0 Γ Pu H I->
  ∃ I1,eM P hint self fi fn T (ds.map fun r=>({ target:= .collected r,args:=#[] }:Deferred)) .returning I=(match cq P fi fn T I1 with
   |some v=>some (.returned v,I1)
   |none=>none)/\aE P hint sh Γ Pu H I1/\Ex O Γ0 Pu0 H0 I0 Γ Pu H I1/\db Γ Pu I Γ Pu I1:=by
 intro ds
 induction ds with
 |nil=>intro I Γ0 Pu0 H0 I0 _ _ hs hs0 hn he;exact ⟨I,rfl,hs,he,db.refl⟩
 |cons d ds ih=>
  intro I Γ0 Pu0 H0 I0 hnd hd hs hs0 hn he;obtain ⟨a,b,c⟩:=hd d (List.mem_cons_self);obtain ⟨hnm,hnd'⟩:=List.nodup_cons.1 hnd;have hnp:¬ Pu d:=fun h=>by obtain ⟨cs,et,fz,ex,sd,hg⟩:=hs.pu d h;rw [c] at hg;cases hg
  obtain ⟨I1,e1,s1,x1,k1⟩:=ih (I:=I.put d (.mN false)) hnd' (fun r hr=>by
   obtain ⟨a',b',c'⟩:=hd r (zao _ hr);exact ⟨a',b',by rw [IH.an,if_neg (by rintro rfl;exact hnm hr)];exact c'⟩) (hs.mark c) hs0 hn (Ex.mark hs0 he (Nat.le_trans hn b) (hs.R2 c))
  refine ⟨I1,?_,s1,x1,db.trans ⟨fun _ _ h=>h,fun _ h=>h,fun b' hb'=>by rw [IH.an,if_neg (by rintro rfl;exact hnp hb')]⟩ k1⟩;simp only [List.map_cons,eM,c,if_pos a];exact e1
theorem qT (ok:fL P hint sh sf self) (hs:aE P hint sh Γ Pu H I) {f:FuncId} {args:List TV} {args':List Value} {K:TV->GH->Option β} (h:AZ stx P sh hint sf f args H K=some r) (ha:bI Γ Pu I args args'):iQ P hint sh K r Γ Pu H I (dQ P hint self f args' I):=by
 unfold AZ at h;split at h
 ·rename_i fn hfn
  split at h
  ·rename_i c hc
   replace h:=ae h;obtain ⟨hb,h⟩:=h;obtain ⟨x,E1,H1,Γ1,Pu1,E1',I1,D1,k1,k2,k3,k4,k5,k6,k7⟩:=Qo ok h hs (ER.args ha) ⟨fn,c,hfn,hc,rfl,.refl _⟩ (.inl ⟨rfl,rfl⟩) (DB.nil I.n I) (zam _);have hfit:fits fn args'=true:=by unfold fits;rw [ha.length];exact hb
   obtain ⟨ds,d1,rfl,d3⟩:=k6;obtain ⟨I2,e1,s2,x2,kk⟩:=N9 (P:=P) (hint:=hint) (self:=self) (fi:=gJ hint f fn) (fn:=fn) (T:=E1') d1 d3 k4 hs (zam _) k5;have key:∀ t,(match xz P (gJ hint f fn) E1 H1 fn.results.toList with |some [v]=>K v H1 |some vs=>K (.jD vs) H1 |none=>none)=some r->t=()->iQ P hint sh K r Γ Pu H I (match cq P (gJ hint f fn) fn E1' I2 with
     |some v=>some (.returned v,I2)
     |none=>none):=by
    intro _ hk _;cases hres:xz P (gJ hint f fn) E1 H1 fn.results.toList with
    |none=>rw [hres] at hk;cases hk
    |some ts=>
     obtain ⟨vs,m1,m2⟩:=Qj s2 (k3.mono kk) hres;rw [hres] at hk;cases ts with
     |nil=>
      cases m2;have:cq P (gJ hint f fn) fn E1' I2=some (.tuple ⟨[]⟩):=by simp only [cq,m1]
      rw [this];exact ⟨_,_,_,_,_,_,hk,rfl,.jD .nil,s2,x2⟩
     |cons t ts=>
      cases m2 with |cons a b=>
      rename_i v1 vs1;cases ts with
      |nil=>
       cases b;have:cq P (gJ hint f fn) fn E1' I2=some v1:=by simp only [cq,m1]
       rw [this];exact ⟨_,_,_,_,_,_,hk,rfl,a,s2,x2⟩
      |cons t2 ts=>
       cases b with |cons b c=>
       rename_i v2 vs2;have:cq P (gJ hint f fn) fn E1' I2=some (.tuple ⟨v1::v2::vs2⟩):=by simp only [cq,m1]
       rw [this];exact ⟨_,_,_,_,_,_,hk,rfl,.jD (.cons a (.cons b c)),s2,x2⟩
   have hcall:∀ y,(y=X.normal∨y=X.ret)->x=y->dQ P hint self f args' I=(match cq P (gJ hint f fn) fn E1' I2 with
     |some v=>some (.returned v,I2)
     |none=>none):=by
    intro y hy hxy;subst hxy;simp only [dQ,hfn,hc,hfit,if_true,k2];rcases hy with rfl |rfl
    ·exact e1
    ·exact e1
   cases x with
   |normal=>rw [hcall _ (.inl rfl) rfl];exact key () k1 rfl
   |ret=>rw [hcall _ (.inr rfl) rfl];exact key () k1 rfl
   |exit id=>cases k1
   |panic v=>cases k1
  ·cases h
 ·cases h
structure rn (P:Program) (hint:Hint) (sh:cz) (hk:tG β) (n:Nat):Prop where
 call:∀ {f:FuncId} {g:Nat->List TV->GH->(TV->GH->Option β)->Option β} {args:List TV} {args':List Value} {H:GH} {K:TV->GH->Option β} {r:β} {Γ:bj} {Pu:Nat->Prop} {I:IH},
  hk.call f=some g->g n args H K=some r->aE P hint sh Γ Pu H I->bI Γ Pu I args args'->iQ P hint sh K r Γ Pu H I (dQ P hint (ev P hint (cD hint) n) f args' I)
 loop:∀ {bM:Nat} {fi:FI} {ro ro':Option Nat} {c:Code} {g:Nat->GE->GH->(X->GE->GH->Option β)->Option (Option β)} {E:GE} {E':En} {H:GH} {K:X->GE->GH->Option β} {r:β} {Γ:bj} {Pu:Nat->Prop} {I:IH} {n0:Nat} {D:List Deferred},
  hk.loop bM (dp c) ro=some g->g n E H K=some (some r)->aE P hint sh Γ Pu H I->ER Γ Pu I E E'->NI P hint bM fi (.loop c)->NJ Γ ro ro'->DB n0 I D->n0<=I.n->dC P hint sh K r Γ Pu H I n0 ro D (aK P (ev P hint (cD hint) n) fi ro' (.loop c) E' I D)
theorem VB {g:Nat} (hs:aE P hint sh Γ Pu H I) (hg:g<bK) (h:UW sh g=true):DW I g (lE.map fun z=> .int .u64 z):=by
 unfold UW at h;split at h
 ·rename_i xs hT
  have hx:xs=lE:=by simpa using h
  subst hx;obtain ⟨_,vs,et,fz,ex,sd,h2,h6,h7,h3⟩:=hs.Kd g _ hg hT;refine ⟨vs,et,fz,ex,sd,h2,h6,by rw [h7,List.length_map];exact Nat.mul_one _,fun i v hv=>?_⟩;rw [List.getElem?_map,Option.map_eq_some_iff] at hv;obtain ⟨z,hz,rfl⟩:=hv;obtain ⟨h4,h5⟩:=h3 i z hz;unfold bW at h5;have:(vs.drop (i*1))[0]? =some (.int .u64 z):=by
   have h6:((vs.drop (i*1)).take 1)[0]? =some (Value.int .u64 z):=by
    show ((vs.drop (i*(Sh.int .u64).sz)).take (Sh.int .u64).sz)[0]? =_
    rw [h5];rfl
   rw [List.getElem?_take] at h6;simpa using h6
  simpa using this
 ·cases h
theorem Po {g:Nat} {xs:List UInt8} (hs:aE P hint sh Γ Pu H I) (hg:g<bK) (h:sh.tb g=some ⟨.byte,xs⟩):DW I g (xs.map tM):=by
 obtain ⟨_,vs,et,fz,ex,sd,h2,h6,h7,h3⟩:=hs.Kd g _ hg h;refine ⟨vs,et,fz,ex,sd,h2,h6,by rw [h7,List.length_map];exact Nat.mul_one _,fun i v hv=>?_⟩;rw [List.getElem?_map,Option.map_eq_some_iff] at hv;obtain ⟨z,hz,rfl⟩:=hv;obtain ⟨h4,h5⟩:=h3 i z hz;unfold bW at h5;have h8:((vs.drop (i*1)).take 1)[0]? =some (tM z):=by
  show ((vs.drop (i*Sh.byte.sz)).take Sh.byte.sz)[0]? =_
  rw [h5];rfl
 rw [List.getElem?_take] at h8;simpa using h8
theorem UZ {g:Nat} {ys:List (UInt8×UInt8)} (hs:aE P hint sh Γ Pu H I) (hg:g<bK) (h:sh.tb g=some ⟨.cons .byte .byte,ys⟩):DW I g (ys.flatMap fun p=> [tM p.1,tM p.2]):=by
 obtain ⟨_,vs,et,fz,ex,sd,h2,h6,h7,h3⟩:=hs.Kd g _ hg h;have hlen:∀ l:List (UInt8×UInt8),(l.flatMap fun p=> [tM p.1,tM p.2]).length=l.length*2:=by
  intro l;induction l with
  |nil=>rfl
  |cons a r ih=>rw [List.flatMap_cons,zaf,ih];simp;omega
 refine ⟨vs,et,fz,ex,sd,h2,h6,by rw [h7,hlen];rfl,fun i v hv=>?_⟩;have hat:∀ (l:List (UInt8×UInt8)) (i:Nat) (v:Value),(l.flatMap fun p=> [tM p.1,tM p.2])[i]? =some v->∃ p,l[i / 2]? =some p/\v=if i%2=0 then tM p.1 else tM p.2:=by
  intro l
  induction l with
  |nil=>intro i v h;simp at h
  |cons a r ih=>
   intro i v h
   match i,h with
   |0,h=>simp at h;exact ⟨a,by simp,by simp [h]⟩
   |1,h=>simp at h;exact ⟨a,by simp,by simp [h]⟩
   |i+2,h=>
    simp at h;obtain ⟨p,h1,h2⟩:=ih i v (by simpa using h);refine ⟨p,?_,?_⟩
    ·rw [show (i+2) / 2=i / 2+1 by omega];simpa using h1
    ·rw [show (i+2)%2=i%2 by omega];exact h2
 obtain ⟨p,h1,h9⟩:=hat ys i v hv;obtain ⟨h4,h5⟩:=h3 (i / 2) p h1;have h5':(vs.drop (i / 2*2)).take 2= [tM p.1,tM p.2]:=by
  unfold bW at h5;obtain ⟨u,w,e1,e2,e3⟩:=h5;unfold bW at e2 e3;subst e2;subst e3;exact e1
 have h10:((vs.drop (i / 2*2)).take 2)[i%2]? =some v:=by
  rw [h5',h9];rcases Nat.mod_two_eq_zero_or_one i with h |h<;>rw [h]<;>rfl
 rw [List.getElem?_take,if_pos (Nat.mod_lt _ (by decide)),List.getElem?_drop,show i / 2*2+i%2=i by omega] at h10;exact h10
theorem OQ {k g:Nat} {args:List TV} {args':List Value} {K:TV->GH->Option β} (hs:aE P hint sh Γ Pu H I) (h:A1 ek sh k g args H K=some (some r)) (ha:bI Γ Pu I args args'):
  ∃ t v,jc k g args' I=some v/\K t H=some r/\GR Γ Pu I t v:=by
 unfold A1 at h;split at h
 ·cases ha;exact ⟨_,_,rfl,by simpa using h,.bool true⟩
 ·rename_i n
  simp only [Option.some.injEq] at h;replace h:=ae h;obtain ⟨hb,h⟩:=h;simp only [zae] at hb;have h:=aN h;cases ha with |cons a b=>
  cases a;cases b;refine ⟨_,_,?_,h.2,.str _⟩;have hg:g<bK:=Nat.le_of_ble_eq_true hb.1;have:jc 1 g [.int .i64 n] I=some (.string (ba (Lib.itoa n))):=by
   unfold jc;exact if_pos ⟨h.1,hg,VB hs hg hb.2⟩
  exact this
 ·rename_i s cs
  replace h:=ae h;obtain ⟨hb,h⟩:=h;simp only [Option.some.injEq] at h;cases ha with |cons a b=>
  cases a;cases b with |cons a b=>
  cases a;cases b;refine ⟨_,_,?_,h,.str _⟩;have:jc 2 g [.string (ba s),.string (ba cs)] I=bif oH cs then some (.string (ba (Lib.trimLeftS s cs))) else none:=rfl
  rw [this,hb];rfl
 ·rename_i s
  simp only [Option.some.injEq] at h;replace h:=ae h;obtain ⟨hb,h⟩:=h;simp only [zae] at hb;have h:=aN h;cases ha with |cons a b=>
  cases a;cases b;refine ⟨_,_,?_,h.2,.bool _⟩;have hg1:g / 1000<bK:=Nat.le_of_ble_eq_true hb.1;have hg2:g%1000<bK:=Nat.le_of_ble_eq_true hb.2.1;have hU:=hb.2.2;unfold Wm at hU;rw [zae] at hU;obtain ⟨hU1,hU2⟩:=hU;have t1:DW I (g / 1000) (sy.map tM):=by
   split at hU1
   ·rename_i xs hT
    have hx:xs=sy:=by simpa using hU1
    subst hx;exact Po hs hg1 hT
   ·cases hU1
  have t2:DW I (g%1000) (Nc.flatMap fun p=> [tM p.1,tM p.2]):=by
   split at hU2
   ·rename_i xs hT
    have hx:xs=Nc:=by simpa using hU2
    subst hx;exact UZ hs hg2 hT
   ·cases hU2
  have:jc 3 g [.string (ba s)] I=some (.bool (Lib.validD s)):=by
   unfold jc;exact if_pos ⟨h.1,⟨hg1,hg2⟩,t1,t2⟩
  exact this
 ·cases h
theorem Pj {k g:Nat} {args:List TV} {args':List Value} {K:TV->GH->Option β} (h:A1 ek sh k g args H K=none) (ha:bI Γ Pu I args args'):jc k g args' I=none:=by
 unfold A1 at h;split at h
 ·cases h
 ·cases h
 ·rename_i s cs
  cases hb:oH cs with
  |true=>rw [hb] at h;cases h
  |false=>
   cases ha with |cons a b=>
   cases a;cases b with |cons a b=>
   cases a;cases b;have:jc 2 g [.string (ba s),.string (ba cs)] I=bif oH cs then some (.string (ba (Lib.trimLeftS s cs))) else none:=rfl
   rw [this,hb];rfl
 ·cases h
 ·cases h
theorem Pp {hk:tG β}:∀ n,(∀ m,m<=n->rn P hint sh hk m)->fL P hint sh (gv stx P sh hint hk n) (ev P hint (cD hint) n):=by
 intro n
 induction n with
 |zero=>
  intro ho;refine ⟨(fun h=>by cases h),(fun h=>by cases h),?_⟩;intro bM fi ro ro' c d E E' H K r Γ Pu I n0 D h hs he hf hr hd hn;simp only [gv] at h;cases hst:PK (hint FC) bM (dp c) with
  |true=>rw [hst] at h;exact .inr (by cases h)
  |false=>
  rw [hst] at h;simp only [zab] at h;split at h
  ·rename_i g hg
   split at h
   ·rename_i q hq
    subst h;exact .inr ((ho 0 (zam _)).loop hg hq hs he hf hr hd hn)
   ·exact .inl h
  ·exact .inl h
 |succ n ih=>
  intro ho;have hi:=ih fun m hm=>ho m (Nat.le_succ_of_le hm)
  refine ⟨?_,?_,?_⟩
  ·intro f args H K r Γ Pu I args' h hs ha
   simp only [gv] at h
   show iQ P hint sh K r Γ Pu H I (da P hint (cD hint) (ev P hint (cD hint) n) f args' I)
   cases hal:nv (hint iW) f with
   |some kg=>
    obtain ⟨k,g⟩:=kg;rw [hal] at h;simp only at h;cases hsp:A1 stx.cm sh k g args H K with
    |some q=>
     rw [hsp] at h;simp only at h;subst h;obtain ⟨t,v,hv,hK,hr⟩:=OQ hs hsp ha;have e:da P hint (cD hint) (ev P hint (cD hint) n) f args' I=some (.returned v,I):=by
      simp only [da,cD,hal,KT,hv,Option.map_some]
     rw [e];exact ⟨_,_,_,_,_,_,hK,rfl,hr,hs,Ex.refl hs⟩
    |none=>
     rw [hsp] at h;simp only at h;have hv:=Pj hsp ha;have e:da P hint (cD hint) (ev P hint (cD hint) n) f args' I=dQ P hint (ev P hint (cD hint) n) f args' I:=by
      simp only [da,cD,hal,KT,hv,Option.map_none]
     rw [e];split at h
     ·rename_i g hg
      exact (ho n (Nat.le_succ n)).call hg h hs ha
     ·exact qT hi hs h ha
   |none=>
   have e:da P hint (cD hint) (ev P hint (cD hint) n) f args' I=dQ P hint (ev P hint (cD hint) n) f args' I:=by
    simp only [da,cD,hal]
   rw [e];rw [hal] at h;simp only at h;cases hst:sK (hint OC) f with
   |true=>rw [hst] at h;cases h
   |false=>
   rw [hst] at h;simp only [zab] at h;split at h
   ·rename_i g hg
    exact (ho n (Nat.le_succ n)).call hg h hs ha
   ·exact qT hi hs h ha
  ·intro bM fi ro ro' c E E' H K r Γ Pu I n0 D h hs he hf hr hd hn
   exact Qo hi h hs he hf hr hd hn
  ·intro bM fi ro ro' c d E E' H K r Γ Pu I n0 D h hs he hf hr hd hn
   simp only [gv] at h;cases hst:PK (hint FC) bM (dp c) with
   |true=>rw [hst] at h;exact .inr (by cases h)
   |false=>
   rw [hst] at h;simp only [zab] at h;split at h
   ·rename_i g hg
    split at h
    ·rename_i q hq
     subst h;exact .inr ((ho (n+1) (zam _)).loop hg hq hs he hf hr hd hn)
    ·exact .inl h
   ·exact .inl h
end
end Go.Gv
