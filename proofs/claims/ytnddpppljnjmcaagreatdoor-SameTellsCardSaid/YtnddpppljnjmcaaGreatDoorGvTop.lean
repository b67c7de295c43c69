/- The pure evaluator's code, calls, levels are the ideal one's. -/
import Derived.Test.YtnddpppljnjmcaaGreatDoorGvJoin
set_option linter.unusedSimpArgs false
set_option linter.unusedVariables false
namespace Go.Gv
open Go Go.Iv
section
variable {β:Type} {P:Program} {hint:Hint} {O:Nat→Prop} {Γ Γ1:bb} {Pu Pu1:Nat→Prop} {H H1:GH} {I I1 I2:IH} {r:β} {sf:eP β} {self:Self} {sh:cr}
theorem ar.NC (hs:ar P hint sh Γ Pu H I) (io:bI):ar P hint sh Γ Pu H (I.new io)∧Ex (bM Γ H I) Γ Pu H I Γ Pu H (I.new io):=by
 have getold:∀ b,b<I.n→(I.new io).get b=I.get b:=fun b hb=>by rw [IH.aw,if_neg (Nat.ne_of_lt hb)]
 have hk:cy Γ Pu I Γ Pu (I.new io):=⟨fun _ _ h=>h,fun _ h=>h,fun b hb=>getold b (hs.jx hb)⟩
 have hpos:∀ id o l b x,H.get id=some o→o.ej=true→Γ id=some l→l.pos=some (b,x)→(I.new io).get b=I.get b:=fun id o l b x hg hm hl hp=>getold b (hs.cj (.pos hg hm hl hp))
 refine ⟨⟨?_,hs.J5 hpos,fun b h=>hs.sep b (pr hpos h),hs.aW,?_,?_,Nat.le_succ_of_le hs.ro,hs.gn,hs.ct,hs.st,hs.mF hk.p hk.i⟩,⟨fun _ _ h=>h,Nat.le_refl _,Nat.le_succ _,fun _ h=>h,fun b hb _=>getold b hb,fun b _ h=>pr hpos h,fun _ _ h=> .inl h,Nat.le_refl _,fun _ _=> .inr (.inl rfl),?_⟩⟩
 ·intro id o hg
  obtain ⟨l,hl,_⟩:=hs.obj id o hg
  exact ⟨l,hl,hs.dS hk hg hl fun hm b hat=>getold b (hs.cj ⟨id,o,l,hg,hm,hl,hat⟩)⟩
 ·intro b hb
  have hb':I.n+1≤b:=hb
  rw [IH.aw,if_neg (by omega)];exact hs.fresh b (by omega)
 ·intro b hb
  obtain ⟨cs,et,fz,ex,sd,hg⟩:=hs.pu b hb
  exact ⟨cs,et,fz,ex,sd,(getold b (hs.lt hg)).trans hg⟩
 ·intro id l b x s h1 _ hl hp
  exact hs.ew hk h1 hl hp fun o hg hm=>hpos id o l b x hg hm hl hp
theorem ar.OG (hs:ar P hint sh Γ Pu H I) {b:Nat} {o o':Bool} (hb:I.get b=some (.ll o)) (id:Nat) (ob:cb) (l:Loc) (b2 x:Nat) (hg:H.get id=some ob) (_:ob.ej=true) (hl:Γ id=some l) (hp:l.pos=some (b2,x)):(I.put b (.ll o')).get b2=I.get b2:=by
 have hno:=hs.A5 hb
 have hnp:¬ Pu b:=fun h=>by obtain ⟨cs,et,fz,ex,sd,hg⟩:=hs.pu b h;rw [hb] at hg;cases hg
 rw [IH.ah,if_neg (by rintro rfl;exact hs.pe hno hnp hg hl hp)]
theorem ar.mark (hs:ar P hint sh Γ Pu H I) {b:Nat} {o o':Bool} (hb:I.get b=some (.ll o)):ar P hint sh Γ Pu H (I.put b (.ll o')):=by
 have hno:=hs.A5 hb
 have hnp:¬ Pu b:=fun h=>by obtain ⟨cs,et,fz,ex,sd,hg⟩:=hs.pu b h;rw [hb] at hg;cases hg
 have hk:cy Γ Pu I Γ Pu (I.put b (.ll o')):=⟨fun _ _ h=>h,fun _ h=>h,fun b' hb'=>by rw [IH.ah,if_neg (by rintro rfl;exact hnp hb')]⟩
 have hpos:∀ id o l b2 x,H.get id=some o→o.ej=true→Γ id=some l→l.pos=some (b2,x)→(I.put b (.ll o')).get b2=I.get b2:=fun id o l b2 x hg hm hl hp=>by rw [IH.ah,if_neg (by rintro rfl;exact hs.pe hno hnp hg hl hp)]
 refine ⟨?_,hs.J5 hpos,fun b h=>hs.sep b (pr hpos h),hs.aW,?_,?_,hs.ro,hs.gn,hs.ct,hs.st,hs.mF hk.p hk.i⟩
 ·intro id ob hg
  obtain ⟨l,hl,ho⟩:=hs.obj id ob hg
  exact ⟨l,hl,ho.mono hk fun b' hat=>by rw [IH.ah,if_neg (by rintro rfl;exact hs.fZ hno hnp hg hl hat)]⟩
 ·intro b' hb'
  rw [IH.ah,if_neg (by rintro rfl;rw [hs.fresh b' hb'] at hb;cases hb)];exact hs.fresh b' hb'
 ·intro b' hb'
  obtain ⟨cs,et,fz,ex,sd,hg⟩:=hs.pu b' hb'
  exact ⟨cs,et,fz,ex,sd,(hk.i b' hb').trans hg⟩
theorem Ex.mark (hs:ar P hint sh Γ Pu H I) (h:Ex O Γ Pu H I Γ1 Pu1 H1 I1) {b:Nat} {o:Bool} (hb:I.n≤b) (hpos:∀ id o' l b2 x,H1.get id=some o'→o'.ej=true→Γ1 id=some l→l.pos=some (b2,x)→(I1.put b (.ll o)).get b2=I1.get b2):Ex O Γ Pu H I Γ1 Pu1 H1 (I1.put b (.ll o)):=
 ⟨h.g,h.hn,h.n,h.p,fun b' hb' ho=>by rw [IH.ah,if_neg (by omega)];exact h.dj b' hb' ho,(fun b' hb' ho=>h.own b' hb' (pr hpos ho)),h.pn,h.ck,h.Av,fun id l b' x s h1 h2 hl hp=>by
  obtain ⟨ob,hg⟩:=GH.fY h1
  have:b'<I.n:=by
   obtain ⟨l',hl',ho⟩:=hs.obj id ob hg
   cases hl.symm.trans hl'
   obtain ⟨io,hio⟩:=ho.Af (.inl ⟨x,hp⟩)
   exact hs.lt hio
  rw [IH.ah,if_neg (by omega)];exact h.jK id l b' x s h1 h2 hl hp⟩
def TE (I:IH):Option Nat→Nat
 |none=>I.n+1
 |some _=>I.n
def Tw (I:IH) (D:List Deferred):Option Nat→List Deferred
 |none=>{ target:= .collected I.n,args:=#[] }::D
 |some _=>D
noncomputable def TU (I:IH):Option Nat→IH
 |none=>I.new (.ll true)
 |some _=>I
theorem Qw:∀ {a b:List Nat},a.map (fun r=>({ target:= .collected r,args:=#[] }:Deferred))=b.map (fun r=>({ target:= .collected r,args:=#[] }:Deferred))→a=b:=by
 intro a
 induction a with
 |nil=>intro b h;cases b with
  |nil=>rfl
  |cons=>cases h
 |cons x a ih=>
  intro b h
  cases b with
  |nil=>cases h
  |cons y b=>
   simp only [List.map_cons,List.cons.injEq] at h
   obtain ⟨h1,h2⟩:=h
   have:x=y:=by injection h1 with h1;injection h1
   rw [this,ih h2]
theorem dk.ret (hs:ar P hint sh Γ Pu H I) {K:X→GE→GH→Option β} {x:X} {E:GE} {E':En} {n0:Nat} {ro:Option Nat} {D:List Deferred} (h:K x E H=some r) (he:ER Γ Pu I E E') (hd:A6 n0 I D):dk P hint sh K r Γ Pu H I n0 ro D (some (x,E',I,D)):=
 ⟨x,E,H,Γ,Pu,E',I,D,h,rfl,he,hs,Ex.refl hs,hd,fun _=>rfl⟩
theorem NJ (ok:eR P hint sh sf self) {bB:Nat} {fi:FI} {ro ro':Option Nat}:∀ {c:Code} {E:GE} {E':En} {H:GH} {I:IH} {Γ:bb} {Pu:Nat→Prop} {n0:Nat} {D:List Deferred} {K:X→GE→GH→Option β},
  gC stx P sh sf bB fi ro c E H K=some r→ar P hint sh Γ Pu H I→ER Γ Pu I E E'→Lk P hint bB fi c→Lj Γ ro ro'→A6 n0 I D→n0≤I.n→dk P hint sh K r Γ Pu H I n0 ro D (aL P self fi ro' c E' I D):=by
 intro c
 induction c with
 |skip=>intro E E' H I Γ Pu n0 D K h hs he hf hr hd hn;exact dk.ret hs h he hd
 |label l=>intro E E' H I Γ Pu n0 D K h hs he hf hr hd hn;exact dk.ret hs h he hd
 |exit id=>intro E E' H I Γ Pu n0 D K h hs he hf hr hd hn;exact dk.ret hs h he hd
 |ret=>intro E E' H I Γ Pu n0 D K h hs he hf hr hd hn;exact dk.ret hs h he hd
 |goto l=>intro E E' H I Γ Pu n0 D K h hs he hf hr hd hn;cases h
 |refuse w=>intro E E' H I Γ Pu n0 D K h hs he hf hr hd hn;cases h
 |region id ops dr=>
  intro E E' H I Γ Pu n0 D K h hs he hf hr hd hn
  cases dr with
  |false=>
   simp only [gC] at h
   split at h
   ·rename_i d hj
    obtain ⟨j1,j2⟩:=G1 hj
    simp only [stx] at h
    cases hb:pW dF P sh BM fi ops ops.toList E.reset H (fun E _=>vx (ez fi E d)) with
    |none=>rw [hb] at h;cases h
    |some b=>
     rw [hb] at h
     simp only [Option.bind_some] at h
     have hcong:=Hg (P:=P) (sh:=sh) (sf:=BM) (H:=H) (fi:=fi) (ops:=ops) (E0:=E.reset) (d:=d) (fun o ho=>(j1 o ho).2)
      (K1:=fun E _=>vx (ez fi E d)) (K2:=fun E1 H1=>@ite _ (H1=H∧∀ t,(cls fi d= .loc→t≠d)→eB E1.loc t=eB E.loc t) (Classical.propDecidable _) (vx (ez fi E1 d)) none)
      (fun E1 h1=>by rw [if_pos ⟨rfl,h1⟩]) ops.toList E.reset j1 (fun _ _=>rfl)
     rw [hcong] at hb
     obtain ⟨E1,H1,Γ1,Pu1,E1',I1,k1,k2,k3,k4,k5⟩:=P0 (ro:=ro') (D:=D) (KA (self:=self)) hb hs he.reset
     by_cases hq:H1=H∧∀ t,(cls fi d= .loc→t≠d)→eB E1.loc t=eB E.loc t
     ·rw [if_pos hq] at k1
      obtain ⟨rfl,hloc⟩:=hq
      have hv:ez fi E1 d= .bool b:=by
       unfold vx at k1
       split at k1
       ·rename_i hh;cases k1;exact hh
       ·cases k1
      refine ⟨.normal,cA fi d (.bool b) E.reset,H1,Γ1,Pu1,E1',I1,D,h,k2,?_,k4,k5,hd.ex hs k5,fun _=>rfl⟩
      rcases j2 with j2 |j2
      ·have hE:cA fi d (.bool b) E.reset=⟨lp E.loc d (.bool b),.e⟩:=by unfold cA;rw [j2];rfl
       have hv:eB E1.loc d= .bool b:=by unfold ez at hv;rw [j2] at hv;exact hv
       rw [hE]
       intro t
       refine ⟨?_,.undef _⟩
       show GR Γ1 Pu1 I1 (eB (lp E.loc d (.bool b)) t) (lk E1'.loc t)
       rw [eN]
       split
       ·rename_i ht;subst ht;rw [←hv];exact (k3 t).1
       ·rename_i ht;rw [←hloc t fun _=>ht];exact (k3 t).1
      ·have hE:cA fi d (.bool b) E.reset=⟨E.loc,.c d (.bool b) .e⟩:=by unfold cA;rw [j2];rfl
       have hv:eB E1.tmp d= .bool b:=by unfold ez at hv;rw [j2] at hv;exact hv
       rw [hE]
       intro t
       have hld:∀ t,eB E1.loc t=eB E.loc t:=fun t=>hloc t fun hh=>by rw [j2] at hh;cases hh
       refine ⟨by rw [←hld t];exact (k3 t).1,?_⟩
       show GR Γ1 Pu1 I1 (eB (.c d (.bool b) .e) t) (lk E1'.tmp t)
       simp only [eB]
       cases hbq:Nat.beq d t with
       |true=>rw [←Nat.eq_of_beq_eq_true hbq,←hv];exact (k3 d).2
       |false=>exact .undef _
     ·rw [if_neg hq] at k1;cases k1
   ·obtain ⟨E1,H1,Γ1,Pu1,E1',I1,k1,k2,k3,k4,k5⟩:=No (ro:=ro') (D:=D) ok _ (Nat.le_refl _) h hs he.reset
    exact ⟨.normal,E1,H1,Γ1,Pu1,E1',I1,D,k1,k2,k3,k4,k5,hd.ex hs k5,fun _=>rfl⟩
  |true=>
   obtain ⟨E1,H1,Γ1,Pu1,E1',I1,k1,k2,k3,k4,k5⟩:=MT (D:=D) ok h hs he.reset
   exact ⟨.normal,E1,H1,Γ1,Pu1,E1',I1,D,k1,k2,k3,k4,k5,hd.ex hs k5,fun _=>rfl⟩
 |seq a b iha ihb=>
  intro E E' H I Γ Pu n0 D K h hs he hf hr hd hn
  obtain ⟨x,E1,H1,Γ1,Pu1,E1',I1,D1,k1,k2,k3,k4,k5,k6,k7⟩:=iha h hs he (hf.sub (.ML (.refl _))) hr hd hn
  cases x with
  |normal=>
   obtain ⟨x,E2,H2,Γ2,Pu2,E2',I2,D2,j1,j2,j3,j4,j5,j6,j7⟩:=ihb k1 k4 k3 (hf.sub (.N2 (.refl _))) (hr.mono k5.g) k6 (Nat.le_trans hn k5.n)
   exact ⟨x,E2,H2,Γ2,Pu2,E2',I2,D2,j1,by simp only [aL,k2,j2],j3,j4,Ex.trans hs k4 k5 j5,j6,fun h=>(j7 h).trans (k7 h)⟩
  |exit id=>exact ⟨_,E1,H1,Γ1,Pu1,E1',I1,D1,k1,by simp only [aL,k2],k3,k4,k5,k6,k7⟩
  |ret=>exact ⟨_,E1,H1,Γ1,Pu1,E1',I1,D1,k1,by simp only [aL,k2],k3,k4,k5,k6,k7⟩
  |panic v=>exact ⟨_,E1,H1,Γ1,Pu1,E1',I1,D1,k1,by simp only [aL,k2],k3,k4,k5,k6,k7⟩
 |cond c a b iha ihb=>
  intro E E' H I Γ Pu n0 D K h hs he hf hr hd hn
  have hc:=bO (fi:=fi) hs he c
  simp only [gC] at h
  split at h
  ·rename_i t ht
   rw [ht] at hc
   unfold dk
   simp only [aL]
   have Mn:∀ b,dO fi E' c= .bool b→ER Γ Pu I (Je fi c b E) E':=fun b hb=>by
    unfold Je
    split
    ·rename_i k
     refine he.Mn k fi ?_
     have:eH fi E' k= .bool b:=hb
     rw [this];exact .bool _
    ·exact he
   generalize hcv:dO fi E' c=cv at hc
   cases hc
   rcases iB h with ⟨rfl,h⟩ |⟨rfl,h⟩
   ·exact iha h hs (Mn _ hcv) (hf.sub (.B2 (.refl _))) hr hd hn
   ·exact ihb h hs (Mn _ hcv) (hf.sub (.EV (.refl _))) hr hd hn
  ·cases h
 |block id c ih=>
  intro E E' H I Γ Pu n0 D K h hs he hf hr hd hn
  obtain ⟨x,E1,H1,Γ1,Pu1,E1',I1,D1,k1,k2,k3,k4,k5,k6,k7⟩:=ih h hs he (hf.sub (.block (.refl _))) hr hd hn
  cases x with
  |normal=>exact ⟨_,E1,H1,Γ1,Pu1,E1',I1,D1,k1,by simp only [aL,k2],k3,k4,k5,k6,k7⟩
  |ret=>exact ⟨_,E1,H1,Γ1,Pu1,E1',I1,D1,k1,by simp only [aL,k2],k3,k4,k5,k6,k7⟩
  |panic v=>exact ⟨_,E1,H1,Γ1,Pu1,E1',I1,D1,k1,by simp only [aL,k2],k3,k4,k5,k6,k7⟩
  |exit j=>
   simp only at k1
   by_cases hj:j=id
   ·subst hj
    rw [Nat.beq_refl] at k1
    exact ⟨_,E1,H1,Γ1,Pu1,E1',I1,D1,k1,by simp only [aL,k2,if_true],k3,k4,k5,k6,k7⟩
   ·rw [fD hj] at k1
    exact ⟨_,E1,H1,Γ1,Pu1,E1',I1,D1,k1,by simp only [aL,k2,if_neg hj],k3,k4,k5,k6,k7⟩
 |scope c ih=>
  intro E E' H I Γ Pu n0 D K h hs he hf hr hd hn
  exact ih h hs he (hf.sub (.scope (.refl _))) hr hd hn
 |loop c ih=>
  intro E E' H I Γ Pu n0 D K h hs he hf hr hd hn
  rcases ok.loop h hs he hf hr hd hn with h |h
  ·obtain ⟨x,E1,H1,Γ1,Pu1,E1',I1,D1,k1,k2,k3,k4,k5,k6,k7⟩:=ih h hs he (hf.sub (.loop (.refl _))) hr hd hn
   cases x with
   |normal=>
    obtain ⟨x,E2,H2,Γ2,Pu2,E2',I2,D2,j1,j2,j3,j4,j5,j6,j7⟩:=ok.code k1 k4 k3 hf (hr.mono k5.g) k6 (Nat.le_trans hn k5.n)
    exact ⟨x,E2,H2,Γ2,Pu2,E2',I2,D2,j1,by simp only [aL,k2,j2],j3,j4,Ex.trans hs k4 k5 j5,j6,fun h=>(j7 h).trans (k7 h)⟩
   |exit id=>exact ⟨_,E1,H1,Γ1,Pu1,E1',I1,D1,k1,by simp only [aL,k2],k3,k4,k5,k6,k7⟩
   |ret=>exact ⟨_,E1,H1,Γ1,Pu1,E1',I1,D1,k1,by simp only [aL,k2],k3,k4,k5,k6,k7⟩
   |panic v=>exact ⟨_,E1,H1,Γ1,Pu1,E1',I1,D1,k1,by simp only [aL,k2],k3,k4,k5,k6,k7⟩
  ·exact h
 |rangeFunc f ps dK body iha ihb=>
  intro E E' H I Γ Pu n0 D K h hs he hf hr hd hn
  have hfo:=bO (fi:=fi) hs he f
  simp only [gC] at h
  replace h:=ad h;obtain ⟨hlo,h⟩:=h
  split at h
  ·rename_i g first captured hfe
   rw [hfe] at hfo
   have pre:∃ I0 D0 lv,ar P hint sh Γ Pu H I0∧Ex (bM Γ H I) Γ Pu H I Γ Pu H I0∧A6 n0 I0 D0∧lv=I0.n∧(ro.isSome=true→D0=D)∧
     (tG I ro'=true)∧TE I ro'=lv∧Tw I D ro'=D0∧TU I ro'=I0:=by
    rcases hr with ⟨rfl,rfl⟩ |⟨l,b,loc,rfl,rfl,hl,hp⟩
    ·obtain ⟨s0,e0⟩:=hs.NC (.ll true)
     refine ⟨I.new (.ll true),_,_,s0,e0,?_,rfl,(fun h=>by cases h),rfl,rfl,rfl,rfl⟩
     obtain ⟨ds,d1,d2,d3⟩:=hd.ex hs e0
     obtain ⟨ds',d1',d2',d3'⟩:=hd
     have hds:ds=ds':=Qw (d2.symm.trans d2')
     subst hds
     refine ⟨I.n::ds,List.nodup_cons.2 ⟨fun hm=>?_,d1⟩,by rw [d2];rfl,fun r hr=>?_⟩
     ·have:=(d3' _ hm).2.2
      rw [hs.fresh _ (Nat.le_refl _)] at this;cases this
     ·rcases List.mem_cons.1 hr with rfl |hr
      ·exact ⟨hs.ro,hn,by rw [IH.aw,if_pos rfl]⟩
      ·exact d3 r hr
    ·refine ⟨I,D,_,hs,Ex.refl hs,hd,rfl,fun _=>rfl,?_,rfl,rfl,rfl⟩
     simp only at hlo
     split at hlo
     ·rename_i hg
      obtain ⟨l',hl',ho⟩:=hs.obj _ _ hg
      cases hl.symm.trans hl'
      obtain ⟨b',F',hp',_,hgb,_⟩:=ho
      cases hp.symm.trans hp'
      simp only [tG,hgb]
     ·cases hlo
   obtain ⟨I0,D0,lv,s0,e0,d0,hlv,hDro,hla,q1,q2,q3⟩:=pre
   have he0:=he.mono (e0.cQ hs)
   obtain ⟨s1,e1⟩:=s0.new (.loop bB .ready none fi E ps.toList dK body) (.loop .ready none fi E' ps.toList dK body) ⟨some (I0.n,0),0,0,0⟩ 0 rfl
    ⟨I0.n,E',rfl,s0.ro,by rw [IH.aw,if_pos rfl],he0.mono (ox s0 _ _),f,ps,hf,rfl⟩
   have hup:(Γ.up H.n ⟨some (I0.n,0),0,0,0⟩) H.n=some ⟨some (I0.n,0),0,0,0⟩:=by simp [bb.up]
   have e01:=Ex.trans hs s0 e0 e1
   generalize hov:dO fi E' f=fv at hfo
   cases hfo with |fn ra rc=>
   rename_i first' captured'
   have hargs:=((ra.mono (e01.cQ hs)).append (bG.cons (GR.pA hup rfl) .nil)).append (rc.mono (e01.cQ hs))
   obtain ⟨t,H2,Γ2,Pu2,v,I2,k1,k2,k3,k4,k5⟩:=ok.call h s1 hargs
   simp only at k1
   split at k1
   ·rename_i fid2 st pd fi2 E2 ps2 asg2 body2 hg2
    cases hbz:(st==LoopState.busy) with
    |true=>rw [hbz] at k1;cases k1
    |false=>
     rw [hbz] at k1
     simp only [cond_false] at k1
     obtain ⟨l2,hl2,ho2⟩:=k4.obj _ _ hg2
     cases (k5.g _ _ hup).symm.trans hl2
     obtain ⟨b2,E2',hp2,hro2,hgb2,hE2,hi5⟩:=ho2
     cases hp2
     have hke:cy Γ2 Pu2 I2 Γ2 Pu2 (I2.put I0.n (.loop .exhausted pd fi2 E2' ps2 asg2 body2)):=
      ⟨fun _ _ h=>h,fun _ h=>h,fun b' hb'=>by rw [IH.ah,if_neg (by rintro rfl;exact k4.sep _ (.pos hg2 rfl hl2 rfl) hb')]⟩
     obtain ⟨s3,e3⟩:=k4.iq hg2 rfl hl2 rfl (.loop fid2 .exhausted pd fi2 E2 ps2 asg2 body2) (.loop .exhausted pd fi2 E2' ps2 asg2 body2)
      ⟨I0.n,E2',rfl,hro2,by rw [IH.ah,if_pos rfl],hE2.mono hke,hi5⟩
     have eall:=Ex.trans hs s1 e01 (Ex.trans s1 k4 k5 e3)
     have dall:A6 n0 (I2.put I0.n (.loop .exhausted pd fi2 E2' ps2 asg2 body2)) D0:=d0.ex s0 (Ex.trans s0 s1 e1 (Ex.trans s1 k4 k5 e3))
     have heall:=he.mono (eall.cQ hs)
     have hev:∀ x,(match pd with |none=>some (X.normal,E',I2.put I0.n (.loop .exhausted pd fi2 E2' ps2 asg2 body2),D0) |some .ret=>some (.ret,E',I2.put I0.n (.loop .exhausted pd fi2 E2' ps2 asg2 body2),D0) |some (.exit id)=>some (.exit id,E',I2.put I0.n (.loop .exhausted pd fi2 E2' ps2 asg2 body2),D0) |_=>none)=some x→aL P self fi ro' (.rangeFunc f ps dK body) E' I D=some x:=by
      intro x hx
      have k2':self.call g (first'++ [Value.func (.yield I0.n) #[] #[]]++captured') (I0.new (.loop .ready none fi E' ps.toList dK body))=some (.returned v,I2):=k2
      rcases hr with ⟨rfl,rfl⟩ |⟨l,b,loc,rfl,rfl,hl,hp⟩
      ·have q1':I.n+1=I0.n:=q1.trans hlv
       have q2':({ target:= .collected I.n,args:=#[] }:Deferred)::D=D0:=q2
       have q3':I.new (.ll true)=I0:=q3
       simp only [aL,hla,Bool.not_true,Bool.false_eq_true,if_false,hov,q1',q2',q3',k2',hgb2,hbz]
       exact hx
      ·have q1':I.n=I0.n:=q1.trans hlv
       have q2':D=D0:=q2
       have q3':I=I0:=q3
       have hla':tG I0 (some b)=true:=q3'▸hla
       simp only [aL,hla',Bool.not_true,Bool.false_eq_true,if_false,hov,q2',q3',k2',hgb2,hbz]
       exact hx
     split at k1
     ·exact ⟨_,E,_,_,_,E',_,D0,k1,hev _ rfl,heall,s3,eall,dall,hDro⟩
     ·exact ⟨_,E,_,_,_,E',_,D0,k1,hev _ rfl,heall,s3,eall,dall,hDro⟩
     ·exact ⟨_,E,_,_,_,E',_,D0,k1,hev _ rfl,heall,s3,eall,dall,hDro⟩
     ·cases k1
   ·cases k1
  ·cases h
theorem Pa (hs:ar P hint sh Γ Pu H I) {fi:FI} {E:GE} {E':En} (he:ER Γ Pu I E E') {rv:ResultVar} {t:TV} (h:Pn P fi E H rv=some t):∃ v,fA P fi E' I rv=some v∧GR Γ Pu I t v:=by
 cases rv with
 |tmp d=>
  unfold Pn at h
  cases h
  exact ⟨_,rfl,bO (fi:=fi) hs he (.tmp d)⟩
 |cell a ty=>
  unfold Pn at h
  have hv:=bO (fi:=fi) hs he (.tmp a)
  simp only at h
  split at h
  ·rename_i id off ha
   have hv':GR Γ Pu I (ez fi E a) (eH fi E' a):=hv
   rw [ha] at hv'
   generalize hov:eH fi E' a=av at hv'
   cases hv' with |ptr hl hp=>
   split at h
   ·rename_i et cs w hg
    replace h:=ad h;obtain ⟨hb,h⟩:=h
    obtain ⟨l',hl',ho⟩:=hs.obj id _ hg
    cases hl.symm.trans hl'
    obtain ⟨b',vs,fz,ex,sd,hp',hgb,hr,_,_⟩:=ho
    cases hp.symm.trans hp'
    obtain ⟨q1,q2⟩:=hr.whole off (aQ hb)
    obtain ⟨v,hv,hrv⟩:=kO (P:=P) (t:=ty) hgb q1 q2 h
    exact ⟨v,by simp only [fA,hov];exact hv,hrv⟩
   ·cases h
  ·cases h
theorem MQ (hs:ar P hint sh Γ Pu H I) {fi:FI} {E:GE} {E':En} (he:ER Γ Pu I E E'):∀ {rs:List ResultVar} {ts:List TV},wu P fi E H rs=some ts→∃ vs,rs.mapM (fA P fi E' I)=some vs∧bG Γ Pu I ts vs:=by
 intro rs
 induction rs with
 |nil=>intro ts h;unfold wu at h;cases h;exact ⟨[],rfl,.nil⟩
 |cons rv rs ih=>
  intro ts h
  unfold wu at h
  split at h
  ·rename_i t ts' h1 h2
   cases h
   obtain ⟨v,e1,r1⟩:=Pa hs he h1
   obtain ⟨vs,e2,r2⟩:=ih h2
   exact ⟨v::vs,by simp [List.mapM_cons,e1,e2],.cons r1 r2⟩
  ·cases h
theorem M1 {fi:FI} {fn:Func} {T:En} {n0:Nat}:∀ {ds:List Nat} {I:IH} {Γ0:bb} {Pu0:Nat→Prop} {H0:GH} {I0:IH},ds.Nodup→(∀ r∈ds,dm≤r∧n0≤r∧I.get r=some (.ll true))→ar P hint sh Γ Pu H I→ar P hint sh Γ0 Pu0 H0 I0→I0.n≤n0→Ex O Γ0 Pu0 H0 I0 Γ Pu H I→
  ∃ I1,fS P hint self fi fn T (ds.map fun r=>({ target:= .collected r,args:=#[] }:Deferred)) .returning I=(match bV P fi fn T I1 with
   |some v=>some (.returned v,I1)
   |none=>none)∧ar P hint sh Γ Pu H I1∧Ex O Γ0 Pu0 H0 I0 Γ Pu H I1∧cy Γ Pu I Γ Pu I1:=by
 intro ds
 induction ds with
 |nil=>intro I Γ0 Pu0 H0 I0 _ _ hs hs0 hn he;exact ⟨I,rfl,hs,he,cy.refl⟩
 |cons d ds ih=>
  intro I Γ0 Pu0 H0 I0 hnd hd hs hs0 hn he
  obtain ⟨a,b,c⟩:=hd d (List.mem_cons_self)
  obtain ⟨hnm,hnd'⟩:=List.nodup_cons.1 hnd
  have hnp:¬ Pu d:=fun h=>by obtain ⟨cs,et,fz,ex,sd,hg⟩:=hs.pu d h;rw [c] at hg;cases hg
  obtain ⟨I1,e1,s1,x1,k1⟩:=ih (I:=I.put d (.ll false)) hnd' (fun r hr=>by
   obtain ⟨a',b',c'⟩:=hd r (List.mem_cons_of_mem _ hr)
   exact ⟨a',b',by rw [IH.ah,if_neg (by rintro rfl;exact hnm hr)];exact c'⟩) (hs.mark c) hs0 hn (Ex.mark hs0 he (Nat.le_trans hn b) (hs.OG c))
  refine ⟨I1,?_,s1,x1,cy.trans ⟨fun _ _ h=>h,fun _ h=>h,fun b' hb'=>by rw [IH.ah,if_neg (by rintro rfl;exact hnp hb')]⟩ k1⟩
  simp only [List.map_cons,fS,c,if_pos a]
  exact e1
theorem wU (ok:eR P hint sh sf self) (hs:ar P hint sh Γ Pu H I) {f:FuncId} {args:List TV} {args':List Value} {K:TV→GH→Option β} (h:D7 stx P sh hint sf f args H K=some r) (ha:bG Γ Pu I args args'):iK P hint sh K r Γ Pu H I (eT P hint self f args' I):=by
 unfold D7 at h
 split at h
 ·rename_i fn hfn
  split at h
  ·rename_i c hc
   replace h:=ad h;obtain ⟨hb,h⟩:=h
   obtain ⟨x,E1,H1,Γ1,Pu1,E1',I1,D1,k1,k2,k3,k4,k5,k6,k7⟩:=NJ ok h hs (ER.args ha) ⟨fn,c,hfn,hc,rfl,.refl _⟩ (.inl ⟨rfl,rfl⟩) (A6.nil I.n I) (Nat.le_refl _)
   have hfit:fits fn args'=true:=by unfold fits;rw [ha.length];exact hb
   obtain ⟨ds,d1,rfl,d3⟩:=k6
   obtain ⟨I2,e1,s2,x2,kk⟩:=M1 (P:=P) (hint:=hint) (self:=self) (fi:=gF hint f fn) (fn:=fn) (T:=E1') d1 d3 k4 hs (Nat.le_refl _) k5
   have key:∀ t,(match wu P (gF hint f fn) E1 H1 fn.results.toList with |some [v]=>K v H1 |some vs=>K (.jI vs) H1 |none=>none)=some r→t=()→iK P hint sh K r Γ Pu H I (match bV P (gF hint f fn) fn E1' I2 with
     |some v=>some (.returned v,I2)
     |none=>none):=by
    intro _ hk _
    cases hres:wu P (gF hint f fn) E1 H1 fn.results.toList with
    |none=>rw [hres] at hk;cases hk
    |some ts=>
     obtain ⟨vs,m1,m2⟩:=MQ s2 (k3.mono kk) hres
     rw [hres] at hk
     cases ts with
     |nil=>
      cases m2
      have:bV P (gF hint f fn) fn E1' I2=some (.tuple ⟨[]⟩):=by simp only [bV,m1]
      rw [this]
      exact ⟨_,_,_,_,_,_,hk,rfl,.jI .nil,s2,x2⟩
     |cons t ts=>
      cases m2 with |cons a b=>
      rename_i v1 vs1
      cases ts with
      |nil=>
       cases b
       have:bV P (gF hint f fn) fn E1' I2=some v1:=by simp only [bV,m1]
       rw [this]
       exact ⟨_,_,_,_,_,_,hk,rfl,a,s2,x2⟩
      |cons t2 ts=>
       cases b with |cons b c=>
       rename_i v2 vs2
       have:bV P (gF hint f fn) fn E1' I2=some (.tuple ⟨v1::v2::vs2⟩):=by simp only [bV,m1]
       rw [this]
       exact ⟨_,_,_,_,_,_,hk,rfl,.jI (.cons a (.cons b c)),s2,x2⟩
   have hcall:∀ y,(y=X.normal∨y=X.ret)→x=y→eT P hint self f args' I=(match bV P (gF hint f fn) fn E1' I2 with
     |some v=>some (.returned v,I2)
     |none=>none):=by
    intro y hy hxy
    subst hxy
    simp only [eT,hfn,hc,hfit,if_true,k2]
    rcases hy with rfl |rfl
    ·exact e1
    ·exact e1
   cases x with
   |normal=>rw [hcall _ (.inl rfl) rfl];exact key () k1 rfl
   |ret=>rw [hcall _ (.inr rfl) rfl];exact key () k1 rfl
   |exit id=>cases k1
   |panic v=>cases k1
  ·cases h
 ·cases h
structure Bb (P:Program) (hint:Hint) (sh:cr) (hk:xY β) (n:Nat):Prop where
 call:∀ {f:FuncId} {g:Nat→List TV→GH→(TV→GH→Option β)→Option β} {args:List TV} {args':List Value} {H:GH} {K:TV→GH→Option β} {r:β} {Γ:bb} {Pu:Nat→Prop} {I:IH},
  hk.call f=some g→g n args H K=some r→ar P hint sh Γ Pu H I→bG Γ Pu I args args'→iK P hint sh K r Γ Pu H I (eT P hint (ev P hint (cw hint) n) f args' I)
 loop:∀ {bB:Nat} {fi:FI} {ro ro':Option Nat} {c:Code} {g:Nat→GE→GH→(X→GE→GH→Option β)→Option (Option β)} {E:GE} {E':En} {H:GH} {K:X→GE→GH→Option β} {r:β} {Γ:bb} {Pu:Nat→Prop} {I:IH} {n0:Nat} {D:List Deferred},
  hk.loop bB (c7 c) ro=some g→g n E H K=some (some r)→ar P hint sh Γ Pu H I→ER Γ Pu I E E'→Lk P hint bB fi (.loop c)→Lj Γ ro ro'→A6 n0 I D→n0≤I.n→dk P hint sh K r Γ Pu H I n0 ro D (aL P (ev P hint (cw hint) n) fi ro' (.loop c) E' I D)
theorem Rc {g:Nat} (hs:ar P hint sh Γ Pu H I) (hg:g<bT) (h:QF sh g=true):A4 I g (kE.map fun z=> .int .u64 z):=by
 unfold QF at h
 split at h
 ·rename_i xs hT
  have hx:xs=kE:=by simpa using h
  subst hx
  obtain ⟨_,vs,et,fz,ex,sd,h2,h6,h7,h3⟩:=hs.Ll g _ hg hT
  refine ⟨vs,et,fz,ex,sd,h2,h6,by rw [h7,List.length_map];exact Nat.mul_one _,fun i v hv=>?_⟩
  rw [List.getElem?_map,Option.map_eq_some_iff] at hv
  obtain ⟨z,hz,rfl⟩:=hv
  obtain ⟨h4,h5⟩:=h3 i z hz
  unfold bL at h5
  have:(vs.drop (i*1))[0]? =some (.int .u64 z):=by
   have h6:((vs.drop (i*1)).take 1)[0]? =some (Value.int .u64 z):=by
    show ((vs.drop (i*(Sh.int .u64).sz)).take (Sh.int .u64).sz)[0]? =_
    rw [h5];rfl
   rw [List.getElem?_take] at h6
   simpa using h6
  simpa using this
 ·cases h
theorem LM {g:Nat} {xs:List UInt8} (hs:ar P hint sh Γ Pu H I) (hg:g<bT) (h:sh.tb g=some ⟨.byte,xs⟩):A4 I g (xs.map rb):=by
 obtain ⟨_,vs,et,fz,ex,sd,h2,h6,h7,h3⟩:=hs.Ll g _ hg h
 refine ⟨vs,et,fz,ex,sd,h2,h6,by rw [h7,List.length_map];exact Nat.mul_one _,fun i v hv=>?_⟩
 rw [List.getElem?_map,Option.map_eq_some_iff] at hv
 obtain ⟨z,hz,rfl⟩:=hv
 obtain ⟨h4,h5⟩:=h3 i z hz
 unfold bL at h5
 have h8:((vs.drop (i*1)).take 1)[0]? =some (rb z):=by
  show ((vs.drop (i*Sh.byte.sz)).take Sh.byte.sz)[0]? =_
  rw [h5];rfl
 rw [List.getElem?_take] at h8
 simpa using h8
theorem QW {g:Nat} {ys:List (UInt8×UInt8)} (hs:ar P hint sh Γ Pu H I) (hg:g<bT) (h:sh.tb g=some ⟨.cons .byte .byte,ys⟩):A4 I g (ys.flatMap fun p=> [rb p.1,rb p.2]):=by
 obtain ⟨_,vs,et,fz,ex,sd,h2,h6,h7,h3⟩:=hs.Ll g _ hg h
 have hlen:∀ l:List (UInt8×UInt8),(l.flatMap fun p=> [rb p.1,rb p.2]).length=l.length*2:=by
  intro l;induction l with
  |nil=>rfl
  |cons a r ih=>rw [List.flatMap_cons,List.length_append,ih];simp;omega
 refine ⟨vs,et,fz,ex,sd,h2,h6,by rw [h7,hlen];rfl,fun i v hv=>?_⟩
 have hat:∀ (l:List (UInt8×UInt8)) (i:Nat) (v:Value),(l.flatMap fun p=> [rb p.1,rb p.2])[i]? =some v→∃ p,l[i / 2]? =some p∧v=if i%2=0 then rb p.1 else rb p.2:=by
  intro l
  induction l with
  |nil=>intro i v h;simp at h
  |cons a r ih=>
   intro i v h
   match i,h with
   |0,h=>simp at h;exact ⟨a,by simp,by simp [h]⟩
   |1,h=>simp at h;exact ⟨a,by simp,by simp [h]⟩
   |i+2,h=>
    simp at h
    obtain ⟨p,h1,h2⟩:=ih i v (by simpa using h)
    refine ⟨p,?_,?_⟩
    ·rw [show (i+2) / 2=i / 2+1 by omega];simpa using h1
    ·rw [show (i+2)%2=i%2 by omega];exact h2
 obtain ⟨p,h1,h9⟩:=hat ys i v hv
 obtain ⟨h4,h5⟩:=h3 (i / 2) p h1
 have h5':(vs.drop (i / 2*2)).take 2= [rb p.1,rb p.2]:=by
  unfold bL at h5
  obtain ⟨u,w,e1,e2,e3⟩:=h5
  unfold bL at e2 e3
  subst e2;subst e3
  exact e1
 have h10:((vs.drop (i / 2*2)).take 2)[i%2]? =some v:=by
  rw [h5',h9]
  rcases Nat.mod_two_eq_zero_or_one i with h |h<;>rw [h]<;>rfl
 rw [List.getElem?_take,if_pos (Nat.mod_lt _ (by decide)),List.getElem?_drop,show i / 2*2+i%2=i by omega] at h10
 exact h10
theorem NZ {k g:Nat} {args:List TV} {args':List Value} {K:TV→GH→Option β} (hs:ar P hint sh Γ Pu H I) (h:zi dF sh k g args H K=some (some r)) (ha:bG Γ Pu I args args'):
  ∃ t v,iH k g args' I=some v∧K t H=some r∧GR Γ Pu I t v:=by
 unfold zi at h
 split at h
 ·cases ha;exact ⟨_,_,rfl,by simpa using h,.bool true⟩
 ·rename_i n
  simp only [Option.some.injEq] at h
  replace h:=ad h;obtain ⟨hb,h⟩:=h
  simp only [Bool.and_eq_true] at hb
  have h:=aE h
  cases ha with |cons a b=>
  cases a;cases b
  refine ⟨_,_,?_,h.2,.str _⟩
  have hg:g<bT:=Nat.le_of_ble_eq_true hb.1
  have:iH 1 g [.int .i64 n] I=some (.string (ba (Lib.itoa n))):=by
   unfold iH
   exact if_pos ⟨h.1,hg,Rc hs hg hb.2⟩
  exact this
 ·rename_i s cs
  replace h:=ad h;obtain ⟨hb,h⟩:=h
  simp only [Option.some.injEq] at h
  cases ha with |cons a b=>
  cases a
  cases b with |cons a b=>
  cases a;cases b
  refine ⟨_,_,?_,h,.str _⟩
  have:iH 2 g [.string (ba s),.string (ba cs)] I=bif mn cs then some (.string (ba (Lib.trimLeftS s cs))) else none:=rfl
  rw [this,hb];rfl
 ·rename_i s
  simp only [Option.some.injEq] at h
  replace h:=ad h;obtain ⟨hb,h⟩:=h
  simp only [Bool.and_eq_true] at hb
  have h:=aE h
  cases ha with |cons a b=>
  cases a;cases b
  refine ⟨_,_,?_,h.2,.bool _⟩
  have hg1:g / 1000<bT:=Nat.le_of_ble_eq_true hb.1
  have hg2:g%1000<bT:=Nat.le_of_ble_eq_true hb.2.1
  have hU:=hb.2.2
  unfold Sg at hU
  rw [Bool.and_eq_true] at hU
  obtain ⟨hU1,hU2⟩:=hU
  have t1:A4 I (g / 1000) (qC.map rb):=by
   split at hU1
   ·rename_i xs hT
    have hx:xs=qC:=by simpa using hU1
    subst hx
    exact LM hs hg1 hT
   ·cases hU1
  have t2:A4 I (g%1000) (JW.flatMap fun p=> [rb p.1,rb p.2]):=by
   split at hU2
   ·rename_i xs hT
    have hx:xs=JW:=by simpa using hU2
    subst hx
    exact QW hs hg2 hT
   ·cases hU2
  have:iH 3 g [.string (ba s)] I=some (.bool (Lib.validD s)):=by
   unfold iH
   exact if_pos ⟨h.1,⟨hg1,hg2⟩,t1,t2⟩
  exact this
 ·cases h
theorem L0 {k g:Nat} {args:List TV} {args':List Value} {K:TV→GH→Option β} (h:zi dF sh k g args H K=none) (ha:bG Γ Pu I args args'):iH k g args' I=none:=by
 unfold zi at h
 split at h
 ·cases h
 ·cases h
 ·rename_i s cs
  cases hb:mn cs with
  |true=>rw [hb] at h;cases h
  |false=>
   cases ha with |cons a b=>
   cases a
   cases b with |cons a b=>
   cases a;cases b
   have:iH 2 g [.string (ba s),.string (ba cs)] I=bif mn cs then some (.string (ba (Lib.trimLeftS s cs))) else none:=rfl
   rw [this,hb];rfl
 ·cases h
 ·cases h
theorem Qj {hk:xY β}:∀ n,(∀ m,m≤n→Bb P hint sh hk m)→eR P hint sh (gv stx P sh hint hk n) (ev P hint (cw hint) n):=by
 intro n
 induction n with
 |zero=>
  intro ho
  refine ⟨(fun h=>by cases h),(fun h=>by cases h),?_⟩
  intro bB fi ro ro' c d E E' H K r Γ Pu I n0 D h hs he hf hr hd hn
  simp only [gv] at h
  cases hst:LS (hint Ce) bB (c7 c) with
  |true=>rw [hst] at h;exact .inr (by cases h)
  |false=>
  rw [hst] at h
  simp only [cond_false] at h
  split at h
  ·rename_i g hg
   split at h
   ·rename_i q hq
    subst h
    exact .inr ((ho 0 (Nat.le_refl _)).loop hg hq hs he hf hr hd hn)
   ·exact .inl h
  ·exact .inl h
 |succ n ih=>
  intro ho
  have hi:=ih fun m hm=>ho m (Nat.le_succ_of_le hm)
  refine ⟨?_,?_,?_⟩
  ·intro f args H K r Γ Pu I args' h hs ha
   simp only [gv] at h
   show iK P hint sh K r Γ Pu H I (dx P hint (cw hint) (ev P hint (cw hint) n) f args' I)
   cases hal:lD (hint gT) f with
   |some kg=>
    obtain ⟨k,g⟩:=kg
    rw [hal] at h
    simp only at h
    cases hsp:zi stx.cm sh k g args H K with
    |some q=>
     rw [hsp] at h
     simp only at h
     subst h
     obtain ⟨t,v,hv,hK,hr⟩:=NZ hs hsp ha
     have e:dx P hint (cw hint) (ev P hint (cw hint) n) f args' I=some (.returned v,I):=by
      simp only [dx,cw,hal,IP,hv,Option.map_some]
     rw [e]
     exact ⟨_,_,_,_,_,_,hK,rfl,hr,hs,Ex.refl hs⟩
    |none=>
     rw [hsp] at h
     simp only at h
     have hv:=L0 hsp ha
     have e:dx P hint (cw hint) (ev P hint (cw hint) n) f args' I=eT P hint (ev P hint (cw hint) n) f args' I:=by
      simp only [dx,cw,hal,IP,hv,Option.map_none]
     rw [e]
     split at h
     ·rename_i g hg
      exact (ho n (Nat.le_succ n)).call hg h hs ha
     ·exact wU hi hs h ha
   |none=>
   have e:dx P hint (cw hint) (ev P hint (cw hint) n) f args' I=eT P hint (ev P hint (cw hint) n) f args' I:=by
    simp only [dx,cw,hal]
   rw [e]
   rw [hal] at h
   simp only at h
   cases hst:xD (hint Mt) f with
   |true=>rw [hst] at h;cases h
   |false=>
   rw [hst] at h
   simp only [cond_false] at h
   split at h
   ·rename_i g hg
    exact (ho n (Nat.le_succ n)).call hg h hs ha
   ·exact wU hi hs h ha
  ·intro bB fi ro ro' c E E' H K r Γ Pu I n0 D h hs he hf hr hd hn
   exact NJ hi h hs he hf hr hd hn
  ·intro bB fi ro ro' c d E E' H K r Γ Pu I n0 D h hs he hf hr hd hn
   simp only [gv] at h
   cases hst:LS (hint Ce) bB (c7 c) with
   |true=>rw [hst] at h;exact .inr (by cases h)
   |false=>
   rw [hst] at h
   simp only [cond_false] at h
   split at h
   ·rename_i g hg
    split at h
    ·rename_i q hq
     subst h
     exact .inr ((ho (n+1) (Nat.le_refl _)).loop hg hq hs he hf hr hd hn)
    ·exact .inl h
   ·exact .inl h
end
end Go.Gv
