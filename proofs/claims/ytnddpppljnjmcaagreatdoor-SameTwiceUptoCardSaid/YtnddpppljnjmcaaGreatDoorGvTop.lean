/- The pure evaluator's code, calls, levels are the ideal one's. -/
import Derived.Test.YtnddpppljnjmcaaGreatDoorGvJoin
set_option linter.unusedSimpArgs false
set_option linter.unusedVariables false
namespace Go.Gv
open Go Go.Iv
section
variable {β:Type} {P:Program} {hint:Hint} {O:Nat→Prop} {Γ Γ1:Gam} {Pu Pu1:Nat→Prop} {H H1:GH} {I I1 I2:IH} {r:β} {sf:GSelf β} {self:Self} {sh:ShT}
theorem Sim.newOther (hs:Sim P hint sh Γ Pu H I) (io:IObj):Sim P hint sh Γ Pu H (I.new io)∧Ex (Own Γ H I) Γ Pu H I Γ Pu H (I.new io):=by
 have getold:∀ b,b<I.n→(I.new io).get b=I.get b:=fun b hb=>by rw [IH.get_new,if_neg (Nat.ne_of_lt hb)]
 have hk:Keep Γ Pu I Γ Pu (I.new io):= ⟨fun _ _ h=>h,fun _ h=>h,fun b hb=>getold b (hs.pu_lt hb)⟩
 have hpos:∀ id o l b x,H.get id=some o→o.mut=true→Γ id=some l→l.pos=some (b,x)→(I.new io).get b=I.get b:=fun id o l b x hg hm hl hp=>getold b (hs.own_lt (.pos hg hm hl hp))
 refine ⟨⟨?_,hs.injK hpos,fun b h=>hs.sep b (ownK hpos h),hs.dom,?_,?_,Nat.le_succ_of_le hs.ro,hs.gn,hs.glob,hs.st,hs.tabK hk.p hk.i⟩,⟨fun _ _ h=>h,Nat.le_refl _,Nat.le_succ _,fun _ h=>h,fun b hb _=>getold b hb,fun b _ h=>ownK hpos h,fun _ _ h=> .inl h,Nat.le_refl _,fun _ _=> .inr (.inl rfl),?_⟩⟩
 ·intro id o hg
  obtain ⟨l,hl,_⟩:=hs.obj id o hg
  exact ⟨l,hl,hs.obj_keep hk hg hl fun hm b hat=>getold b (hs.own_lt ⟨id,o,l,hg,hm,hl,hat⟩)⟩
 ·intro b hb
  have hb':I.n+1≤b:=hb
  rw [IH.get_new,if_neg (by omega)];exact hs.fresh b (by omega)
 ·intro b hb
  obtain ⟨cs,et,fz,ex,sd,hg⟩:=hs.pu b hb
  exact ⟨cs,et,fz,ex,sd,(getold b (hs.lt hg)).trans hg⟩
 ·intro id l b x s h1 _ hl hp
  exact hs.hist_keep hk h1 hl hp fun o hg hm=>hpos id o l b x hg hm hl hp
theorem Sim.markPos (hs:Sim P hint sh Γ Pu H I) {b:Nat} {o o':Bool} (hb:I.get b=some (.dfr o)) (id:Nat) (ob:GObj) (l:Loc) (b2 x:Nat) (hg:H.get id=some ob) (_:ob.mut=true) (hl:Γ id=some l) (hp:l.pos=some (b2,x)):(I.put b (.dfr o')).get b2=I.get b2:=by
 have hno:=hs.own_dfr hb
 have hnp:¬ Pu b:=fun h=>by obtain ⟨cs,et,fz,ex,sd,hg⟩:=hs.pu b h;rw [hb] at hg;cases hg
 rw [IH.get_put,if_neg (by rintro rfl;exact hs.obj_free hno hnp hg hl hp)]
theorem Sim.mark (hs:Sim P hint sh Γ Pu H I) {b:Nat} {o o':Bool} (hb:I.get b=some (.dfr o)):Sim P hint sh Γ Pu H (I.put b (.dfr o')):=by
 have hno:=hs.own_dfr hb
 have hnp:¬ Pu b:=fun h=>by obtain ⟨cs,et,fz,ex,sd,hg⟩:=hs.pu b h;rw [hb] at hg;cases hg
 have hk:Keep Γ Pu I Γ Pu (I.put b (.dfr o')):= ⟨fun _ _ h=>h,fun _ h=>h,fun b' hb'=>by rw [IH.get_put,if_neg (by rintro rfl;exact hnp hb')]⟩
 have hpos:∀ id o l b2 x,H.get id=some o→o.mut=true→Γ id=some l→l.pos=some (b2,x)→(I.put b (.dfr o')).get b2=I.get b2:=fun id o l b2 x hg hm hl hp=>by rw [IH.get_put,if_neg (by rintro rfl;exact hs.obj_free hno hnp hg hl hp)]
 refine ⟨?_,hs.injK hpos,fun b h=>hs.sep b (ownK hpos h),hs.dom,?_,?_,hs.ro,hs.gn,hs.glob,hs.st,hs.tabK hk.p hk.i⟩
 ·intro id ob hg
  obtain ⟨l,hl,ho⟩:=hs.obj id ob hg
  exact ⟨l,hl,ho.mono hk fun b' hat=>by rw [IH.get_put,if_neg (by rintro rfl;exact hs.obj_free0 hno hnp hg hl hat)]⟩
 ·intro b' hb'
  rw [IH.get_put,if_neg (by rintro rfl;rw [hs.fresh b' hb'] at hb;cases hb)];exact hs.fresh b' hb'
 ·intro b' hb'
  obtain ⟨cs,et,fz,ex,sd,hg⟩:=hs.pu b' hb'
  exact ⟨cs,et,fz,ex,sd,(hk.i b' hb').trans hg⟩
theorem Ex.mark (hs:Sim P hint sh Γ Pu H I) (h:Ex O Γ Pu H I Γ1 Pu1 H1 I1) {b:Nat} {o:Bool} (hb:I.n≤b) (hpos:∀ id o' l b2 x,H1.get id=some o'→o'.mut=true→Γ1 id=some l→l.pos=some (b2,x)→(I1.put b (.dfr o)).get b2=I1.get b2):Ex O Γ Pu H I Γ1 Pu1 H1 (I1.put b (.dfr o)):=
 ⟨h.g,h.hn,h.n,h.p,fun b' hb' ho=>by rw [IH.get_put,if_neg (by omega)];exact h.keep b' hb' ho,(fun b' hb' ho=>h.own b' hb' (ownK hpos ho)),h.pn,h.ck,h.stm,fun id l b' x s h1 h2 hl hp=>by
  obtain ⟨ob,hg⟩:=GH.stamp_get h1
  have:b'<I.n:=by
   obtain ⟨l',hl',ho⟩:=hs.obj id ob hg
   cases hl.symm.trans hl'
   obtain ⟨io,hio⟩:=ho.at_some (.inl ⟨x,hp⟩)
   exact hs.lt hio
  rw [IH.get_put,if_neg (by omega)];exact h.hist id l b' x s h1 h2 hl hp⟩
def rgL (I:IH):Option Nat→Nat
 |none=>I.n+1
 |some _=>I.n
def rgD (I:IH) (D:List Deferred):Option Nat→List Deferred
 |none=>{ target:= .collected I.n,args:=#[] }::D
 |some _=>D
noncomputable def rgH (I:IH):Option Nat→IH
 |none=>I.new (.dfr true)
 |some _=>I
theorem ds_inj:∀ {a b:List Nat},a.map (fun r=>({ target:= .collected r,args:=#[] }:Deferred))=b.map (fun r=>({ target:= .collected r,args:=#[] }:Deferred))→a=b:=by
 intro a
 induction a with
 |nil=>intro b h;cases b with
  |nil=>rfl
  |cons=>cases h
 |cons x a ih=>
  intro b h
  cases b with
  |nil=>cases h
  |cons y b=>
   simp only [List.map_cons,List.cons.injEq] at h
   obtain ⟨h1,h2⟩:=h
   have:x=y:=by injection h1 with h1;injection h1
   rw [this,ih h2]
theorem CodeGood.ret (hs:Sim P hint sh Γ Pu H I) {K:X→GE→GH→Option β} {x:X} {E:GE} {E':En} {n0:Nat} {ro:Option Nat} {D:List Deferred} (h:K x E H=some r) (he:ER Γ Pu I E E') (hd:Dok n0 I D):CodeGood P hint sh K r Γ Pu H I n0 ro D (some (x,E',I,D)):=
 ⟨x,E,H,Γ,Pu,E',I,D,h,rfl,he,hs,Ex.refl hs,hd,fun _=>rfl⟩
theorem gC_ok (ok:SelfOK P hint sh sf self) {fid:Nat} {fi:FI} {ro ro':Option Nat}:∀ {c:Code} {E:GE} {E':En} {H:GH} {I:IH} {Γ:Gam} {Pu:Nat→Prop} {n0:Nat} {D:List Deferred} {K:X→GE→GH→Option β},
  gC stx P sh sf fid fi ro c E H K=some r→Sim P hint sh Γ Pu H I→ER Γ Pu I E E'→InF P hint fid fi c→RoR Γ ro ro'→Dok n0 I D→n0≤I.n→CodeGood P hint sh K r Γ Pu H I n0 ro D (evCode P self fi ro' c E' I D):=by
 intro c
 induction c with
 |skip=>intro E E' H I Γ Pu n0 D K h hs he hf hr hd hn;exact CodeGood.ret hs h he hd
 |label l=>intro E E' H I Γ Pu n0 D K h hs he hf hr hd hn;exact CodeGood.ret hs h he hd
 |exit id=>intro E E' H I Γ Pu n0 D K h hs he hf hr hd hn;exact CodeGood.ret hs h he hd
 |ret=>intro E E' H I Γ Pu n0 D K h hs he hf hr hd hn;exact CodeGood.ret hs h he hd
 |goto l=>intro E E' H I Γ Pu n0 D K h hs he hf hr hd hn;cases h
 |refuse w=>intro E E' H I Γ Pu n0 D K h hs he hf hr hd hn;cases h
 |region id ops dr=>
  intro E E' H I Γ Pu n0 D K h hs he hf hr hd hn
  cases dr with
  |false=>
   simp only [gC] at h
   split at h
   ·rename_i d hj
    obtain ⟨j1,j2⟩:=joinR_some hj
    simp only [stx] at h
    cases hb:gOps std P sh noSelf fi ops ops.toList E.reset H (fun E _=>boolAt (lkGE fi E d)) with
    |none=>rw [hb] at h;cases h
    |some b=>
     rw [hb] at h
     simp only [Option.bind_some] at h
     have hcong:=gOps_congr (P:=P) (sh:=sh) (sf:=noSelf) (H:=H) (fi:=fi) (ops:=ops) (E0:=E.reset) (d:=d) (fun o ho=>(j1 o ho).2)
      (K1:=fun E _=>boolAt (lkGE fi E d)) (K2:=fun E1 H1=>@ite _ (H1=H∧∀ t,(cls fi d= .loc→t≠d)→lkG E1.loc t=lkG E.loc t) (Classical.propDecidable _) (boolAt (lkGE fi E1 d)) none)
      (fun E1 h1=>by rw [if_pos ⟨rfl,h1⟩]) ops.toList E.reset j1 (fun _ _=>rfl)
     rw [hcong] at hb
     obtain ⟨E1,H1,Γ1,Pu1,E1',I1,k1,k2,k3,k4,k5⟩:=gOps_ok (ro:=ro') (D:=D) (noSelf_ok (self:=self)) hb hs he.reset
     by_cases hq:H1=H∧∀ t,(cls fi d= .loc→t≠d)→lkG E1.loc t=lkG E.loc t
     ·rw [if_pos hq] at k1
      obtain ⟨rfl,hloc⟩:=hq
      have hv:lkGE fi E1 d= .bool b:=by
       unfold boolAt at k1
       split at k1
       ·rename_i hh;cases k1;exact hh
       ·cases k1
      refine ⟨.normal,putGE fi d (.bool b) E.reset,H1,Γ1,Pu1,E1',I1,D,h,k2,?_,k4,k5,hd.ex hs k5,fun _=>rfl⟩
      rcases j2 with j2 |j2
      ·have hE:putGE fi d (.bool b) E.reset= ⟨updG E.loc d (.bool b),.e⟩:=by unfold putGE;rw [j2];rfl
       have hv:lkG E1.loc d= .bool b:=by unfold lkGE at hv;rw [j2] at hv;exact hv
       rw [hE]
       intro t
       refine ⟨?_,.undef _⟩
       show GR Γ1 Pu1 I1 (lkG (updG E.loc d (.bool b)) t) (lk E1'.loc t)
       rw [lkG_updG]
       split
       ·rename_i ht;subst ht;rw [←hv];exact (k3 t).1
       ·rename_i ht;rw [←hloc t fun _=>ht];exact (k3 t).1
      ·have hE:putGE fi d (.bool b) E.reset= ⟨E.loc,.c d (.bool b) .e⟩:=by unfold putGE;rw [j2];rfl
       have hv:lkG E1.tmp d= .bool b:=by unfold lkGE at hv;rw [j2] at hv;exact hv
       rw [hE]
       intro t
       have hld:∀ t,lkG E1.loc t=lkG E.loc t:=fun t=>hloc t fun hh=>by rw [j2] at hh;cases hh
       refine ⟨by rw [←hld t];exact (k3 t).1,?_⟩
       show GR Γ1 Pu1 I1 (lkG (.c d (.bool b) .e) t) (lk E1'.tmp t)
       simp only [lkG]
       cases hbq:Nat.beq d t with
       |true=>rw [←Nat.eq_of_beq_eq_true hbq,←hv];exact (k3 d).2
       |false=>exact .undef _
     ·rw [if_neg hq] at k1;cases k1
   ·obtain ⟨E1,H1,Γ1,Pu1,E1',I1,k1,k2,k3,k4,k5⟩:=gOpsQ_ok (ro:=ro') (D:=D) ok _ (Nat.le_refl _) h hs he.reset
    exact ⟨.normal,E1,H1,Γ1,Pu1,E1',I1,D,k1,k2,k3,k4,k5,hd.ex hs k5,fun _=>rfl⟩
  |true=>
   obtain ⟨E1,H1,Γ1,Pu1,E1',I1,k1,k2,k3,k4,k5⟩:=gDraw_ok (D:=D) ok h hs he.reset
   exact ⟨.normal,E1,H1,Γ1,Pu1,E1',I1,D,k1,k2,k3,k4,k5,hd.ex hs k5,fun _=>rfl⟩
 |seq a b iha ihb=>
  intro E E' H I Γ Pu n0 D K h hs he hf hr hd hn
  obtain ⟨x,E1,H1,Γ1,Pu1,E1',I1,D1,k1,k2,k3,k4,k5,k6,k7⟩:=iha h hs he (hf.sub (.seqL (.refl _))) hr hd hn
  cases x with
  |normal=>
   obtain ⟨x,E2,H2,Γ2,Pu2,E2',I2,D2,j1,j2,j3,j4,j5,j6,j7⟩:=ihb k1 k4 k3 (hf.sub (.seqR (.refl _))) (hr.mono k5.g) k6 (Nat.le_trans hn k5.n)
   exact ⟨x,E2,H2,Γ2,Pu2,E2',I2,D2,j1,by simp only [evCode,k2,j2],j3,j4,Ex.trans hs k4 k5 j5,j6,fun h=>(j7 h).trans (k7 h)⟩
  |exit id=>exact ⟨_,E1,H1,Γ1,Pu1,E1',I1,D1,k1,by simp only [evCode,k2],k3,k4,k5,k6,k7⟩
  |ret=>exact ⟨_,E1,H1,Γ1,Pu1,E1',I1,D1,k1,by simp only [evCode,k2],k3,k4,k5,k6,k7⟩
  |panic v=>exact ⟨_,E1,H1,Γ1,Pu1,E1',I1,D1,k1,by simp only [evCode,k2],k3,k4,k5,k6,k7⟩
 |cond c a b iha ihb=>
  intro E E' H I Γ Pu n0 D K h hs he hf hr hd hn
  have hc:=opdG_ok (fi:=fi) hs he c
  simp only [gC] at h
  split at h
  ·rename_i t ht
   rw [ht] at hc
   unfold CodeGood
   simp only [evCode]
   have know:∀ b,opd fi E' c= .bool b→ER Γ Pu I (knowB fi c b E) E':=fun b hb=>by
    unfold knowB
    split
    ·rename_i k
     refine he.know k fi ?_
     have:lkE fi E' k= .bool b:=hb
     rw [this];exact .bool _
    ·exact he
   generalize hcv:opd fi E' c=cv at hc
   cases hc
   rcases sel_some h with ⟨rfl,h⟩ | ⟨rfl,h⟩
   ·exact iha h hs (know _ hcv) (hf.sub (.condL (.refl _))) hr hd hn
   ·exact ihb h hs (know _ hcv) (hf.sub (.condR (.refl _))) hr hd hn
  ·cases h
 |block id c ih=>
  intro E E' H I Γ Pu n0 D K h hs he hf hr hd hn
  obtain ⟨x,E1,H1,Γ1,Pu1,E1',I1,D1,k1,k2,k3,k4,k5,k6,k7⟩:=ih h hs he (hf.sub (.block (.refl _))) hr hd hn
  cases x with
  |normal=>exact ⟨_,E1,H1,Γ1,Pu1,E1',I1,D1,k1,by simp only [evCode,k2],k3,k4,k5,k6,k7⟩
  |ret=>exact ⟨_,E1,H1,Γ1,Pu1,E1',I1,D1,k1,by simp only [evCode,k2],k3,k4,k5,k6,k7⟩
  |panic v=>exact ⟨_,E1,H1,Γ1,Pu1,E1',I1,D1,k1,by simp only [evCode,k2],k3,k4,k5,k6,k7⟩
  |exit j=>
   simp only at k1
   by_cases hj:j=id
   ·subst hj
    rw [Nat.beq_refl] at k1
    exact ⟨_,E1,H1,Γ1,Pu1,E1',I1,D1,k1,by simp only [evCode,k2,if_true],k3,k4,k5,k6,k7⟩
   ·rw [beq_ne hj] at k1
    exact ⟨_,E1,H1,Γ1,Pu1,E1',I1,D1,k1,by simp only [evCode,k2,if_neg hj],k3,k4,k5,k6,k7⟩
 |scope c ih=>
  intro E E' H I Γ Pu n0 D K h hs he hf hr hd hn
  exact ih h hs he (hf.sub (.scope (.refl _))) hr hd hn
 |loop c ih=>
  intro E E' H I Γ Pu n0 D K h hs he hf hr hd hn
  rcases ok.loop h hs he hf hr hd hn with h |h
  ·obtain ⟨x,E1,H1,Γ1,Pu1,E1',I1,D1,k1,k2,k3,k4,k5,k6,k7⟩:=ih h hs he (hf.sub (.loop (.refl _))) hr hd hn
   cases x with
   |normal=>
    obtain ⟨x,E2,H2,Γ2,Pu2,E2',I2,D2,j1,j2,j3,j4,j5,j6,j7⟩:=ok.code k1 k4 k3 hf (hr.mono k5.g) k6 (Nat.le_trans hn k5.n)
    exact ⟨x,E2,H2,Γ2,Pu2,E2',I2,D2,j1,by simp only [evCode,k2,j2],j3,j4,Ex.trans hs k4 k5 j5,j6,fun h=>(j7 h).trans (k7 h)⟩
   |exit id=>exact ⟨_,E1,H1,Γ1,Pu1,E1',I1,D1,k1,by simp only [evCode,k2],k3,k4,k5,k6,k7⟩
   |ret=>exact ⟨_,E1,H1,Γ1,Pu1,E1',I1,D1,k1,by simp only [evCode,k2],k3,k4,k5,k6,k7⟩
   |panic v=>exact ⟨_,E1,H1,Γ1,Pu1,E1',I1,D1,k1,by simp only [evCode,k2],k3,k4,k5,k6,k7⟩
  ·exact h
 |rangeFunc f ps asg body iha ihb=>
  intro E E' H I Γ Pu n0 D K h hs he hf hr hd hn
  have hfo:=opdG_ok (fi:=fi) hs he f
  simp only [gC] at h
  replace h:=bif_some h;obtain ⟨hlo,h⟩:=h
  split at h
  ·rename_i g first captured hfe
   rw [hfe] at hfo
   have pre:∃ I0 D0 lv,Sim P hint sh Γ Pu H I0∧Ex (Own Γ H I) Γ Pu H I Γ Pu H I0∧Dok n0 I0 D0∧lv=I0.n∧(ro.isSome=true→D0=D)∧
     (loopAt I ro'=true)∧rgL I ro'=lv∧rgD I D ro'=D0∧rgH I ro'=I0:=by
    rcases hr with ⟨rfl,rfl⟩ | ⟨l,b,loc,rfl,rfl,hl,hp⟩
    ·obtain ⟨s0,e0⟩:=hs.newOther (.dfr true)
     refine ⟨I.new (.dfr true),_,_,s0,e0,?_,rfl,(fun h=>by cases h),rfl,rfl,rfl,rfl⟩
     obtain ⟨ds,d1,d2,d3⟩:=hd.ex hs e0
     obtain ⟨ds',d1',d2',d3'⟩:=hd
     have hds:ds=ds':=ds_inj (d2.symm.trans d2')
     subst hds
     refine ⟨I.n::ds,List.nodup_cons.2 ⟨fun hm=>?_,d1⟩,by rw [d2];rfl,fun r hr=>?_⟩
     ·have:=(d3' _ hm).2.2
      rw [hs.fresh _ (Nat.le_refl _)] at this;cases this
     ·rcases List.mem_cons.1 hr with rfl |hr
      ·exact ⟨hs.ro,hn,by rw [IH.get_new,if_pos rfl]⟩
      ·exact d3 r hr
    ·refine ⟨I,D,_,hs,Ex.refl hs,hd,rfl,fun _=>rfl,?_,rfl,rfl,rfl⟩
     simp only at hlo
     split at hlo
     ·rename_i hg
      obtain ⟨l',hl',ho⟩:=hs.obj _ _ hg
      cases hl.symm.trans hl'
      obtain ⟨b',F',hp',_,hgb,_⟩:=ho
      cases hp.symm.trans hp'
      simp only [loopAt,hgb]
     ·cases hlo
   obtain ⟨I0,D0,lv,s0,e0,d0,hlv,hDro,hla,q1,q2,q3⟩:=pre
   have he0:=he.mono (e0.keepV hs)
   obtain ⟨s1,e1⟩:=s0.new (.loop fid .ready none fi E ps.toList asg body) (.loop .ready none fi E' ps.toList asg body) ⟨some (I0.n,0),0,0,0⟩ 0 rfl
    ⟨I0.n,E',rfl,s0.ro,by rw [IH.get_new,if_pos rfl],he0.mono (keep_new s0 _ _),f,ps,hf,rfl⟩
   have hup:(Γ.up H.n ⟨some (I0.n,0),0,0,0⟩) H.n=some ⟨some (I0.n,0),0,0,0⟩:=by simp [Gam.up]
   have e01:=Ex.trans hs s0 e0 e1
   generalize hov:opd fi E' f=fv at hfo
   cases hfo with |fn ra rc=>
   rename_i first' captured'
   have hargs:=((ra.mono (e01.keepV hs)).append (GRs.cons (GR.yld hup rfl) .nil)).append (rc.mono (e01.keepV hs))
   obtain ⟨t,H2,Γ2,Pu2,v,I2,k1,k2,k3,k4,k5⟩:=ok.call h s1 hargs
   simp only at k1
   split at k1
   ·rename_i fid2 st pd fi2 E2 ps2 asg2 body2 hg2
    cases hbz:(st==LoopState.busy) with
    |true=>rw [hbz] at k1;cases k1
    |false=>
     rw [hbz] at k1
     simp only [cond_false] at k1
     obtain ⟨l2,hl2,ho2⟩:=k4.obj _ _ hg2
     cases (k5.g _ _ hup).symm.trans hl2
     obtain ⟨b2,E2',hp2,hro2,hgb2,hE2,hi5⟩:=ho2
     cases hp2
     have hke:Keep Γ2 Pu2 I2 Γ2 Pu2 (I2.put I0.n (.loop .exhausted pd fi2 E2' ps2 asg2 body2)):=
      ⟨fun _ _ h=>h,fun _ h=>h,fun b' hb'=>by rw [IH.get_put,if_neg (by rintro rfl;exact k4.sep _ (.pos hg2 rfl hl2 rfl) hb')]⟩
     obtain ⟨s3,e3⟩:=k4.turn hg2 rfl hl2 rfl (.loop fid2 .exhausted pd fi2 E2 ps2 asg2 body2) (.loop .exhausted pd fi2 E2' ps2 asg2 body2)
      ⟨I0.n,E2',rfl,hro2,by rw [IH.get_put,if_pos rfl],hE2.mono hke,hi5⟩
     have eall:=Ex.trans hs s1 e01 (Ex.trans s1 k4 k5 e3)
     have dall:Dok n0 (I2.put I0.n (.loop .exhausted pd fi2 E2' ps2 asg2 body2)) D0:=d0.ex s0 (Ex.trans s0 s1 e1 (Ex.trans s1 k4 k5 e3))
     have heall:=he.mono (eall.keepV hs)
     have hev:∀ x,(match pd with |none=>some (X.normal,E',I2.put I0.n (.loop .exhausted pd fi2 E2' ps2 asg2 body2),D0) |some .ret=>some (.ret,E',I2.put I0.n (.loop .exhausted pd fi2 E2' ps2 asg2 body2),D0) |some (.exit id)=>some (.exit id,E',I2.put I0.n (.loop .exhausted pd fi2 E2' ps2 asg2 body2),D0) |_=>none)=some x→evCode P self fi ro' (.rangeFunc f ps asg body) E' I D=some x:=by
      intro x hx
      have k2':self.call g (first'++ [Value.func (.yield I0.n) #[] #[]]++captured') (I0.new (.loop .ready none fi E' ps.toList asg body))=some (.returned v,I2):=k2
      rcases hr with ⟨rfl,rfl⟩ | ⟨l,b,loc,rfl,rfl,hl,hp⟩
      ·have q1':I.n+1=I0.n:=q1.trans hlv
       have q2':({ target:= .collected I.n,args:=#[] }:Deferred)::D=D0:=q2
       have q3':I.new (.dfr true)=I0:=q3
       simp only [evCode,hla,Bool.not_true,Bool.false_eq_true,if_false,hov,q1',q2',q3',k2',hgb2,hbz]
       exact hx
      ·have q1':I.n=I0.n:=q1.trans hlv
       have q2':D=D0:=q2
       have q3':I=I0:=q3
       have hla':loopAt I0 (some b)=true:=q3'▸hla
       simp only [evCode,hla',Bool.not_true,Bool.false_eq_true,if_false,hov,q2',q3',k2',hgb2,hbz]
       exact hx
     split at k1
     ·exact ⟨_,E,_,_,_,E',_,D0,k1,hev _ rfl,heall,s3,eall,dall,hDro⟩
     ·exact ⟨_,E,_,_,_,E',_,D0,k1,hev _ rfl,heall,s3,eall,dall,hDro⟩
     ·exact ⟨_,E,_,_,_,E',_,D0,k1,hev _ rfl,heall,s3,eall,dall,hDro⟩
     ·cases k1
   ·cases k1
  ·cases h
theorem resG_ok (hs:Sim P hint sh Γ Pu H I) {fi:FI} {E:GE} {E':En} (he:ER Γ Pu I E E') {rv:ResultVar} {t:TV} (h:resG P fi E H rv=some t):∃ v,resultOf P fi E' I rv=some v∧GR Γ Pu I t v:=by
 cases rv with
 |tmp d=>
  unfold resG at h
  cases h
  exact ⟨_,rfl,opdG_ok (fi:=fi) hs he (.tmp d)⟩
 |cell a ty=>
  unfold resG at h
  have hv:=opdG_ok (fi:=fi) hs he (.tmp a)
  simp only at h
  split at h
  ·rename_i id off ha
   have hv':GR Γ Pu I (lkGE fi E a) (lkE fi E' a):=hv
   rw [ha] at hv'
   generalize hov:lkE fi E' a=av at hv'
   cases hv' with |ptr hl hp=>
   split at h
   ·rename_i et cs w hg
    replace h:=bif_some h;obtain ⟨hb,h⟩:=h
    obtain ⟨l',hl',ho⟩:=hs.obj id _ hg
    cases hl.symm.trans hl'
    obtain ⟨b',vs,fz,ex,sd,hp',hgb,hr,_,_⟩:=ho
    cases hp.symm.trans hp'
    obtain ⟨q1,q2⟩:=hr.whole off (ble_true hb)
    obtain ⟨v,hv,hrv⟩:=ldVar_ok (P:=P) (t:=ty) hgb q1 q2 h
    exact ⟨v,by simp only [resultOf,hov];exact hv,hrv⟩
   ·cases h
  ·cases h
theorem ressG_ok (hs:Sim P hint sh Γ Pu H I) {fi:FI} {E:GE} {E':En} (he:ER Γ Pu I E E'):∀ {rs:List ResultVar} {ts:List TV},ressG P fi E H rs=some ts→∃ vs,rs.mapM (resultOf P fi E' I)=some vs∧GRs Γ Pu I ts vs:=by
 intro rs
 induction rs with
 |nil=>intro ts h;unfold ressG at h;cases h;exact ⟨[],rfl,.nil⟩
 |cons rv rs ih=>
  intro ts h
  unfold ressG at h
  split at h
  ·rename_i t ts' h1 h2
   cases h
   obtain ⟨v,e1,r1⟩:=resG_ok hs he h1
   obtain ⟨vs,e2,r2⟩:=ih h2
   exact ⟨v::vs,by simp [List.mapM_cons,e1,e2],.cons r1 r2⟩
  ·cases h
theorem leave_ok {fi:FI} {fn:Func} {T:En} {n0:Nat}:∀ {ds:List Nat} {I:IH} {Γ0:Gam} {Pu0:Nat→Prop} {H0:GH} {I0:IH},ds.Nodup→(∀ r∈ds,roN≤r∧n0≤r∧I.get r=some (.dfr true))→Sim P hint sh Γ Pu H I→Sim P hint sh Γ0 Pu0 H0 I0→I0.n≤n0→Ex O Γ0 Pu0 H0 I0 Γ Pu H I→
  ∃ I1,evLeave P hint self fi fn T (ds.map fun r=>({ target:= .collected r,args:=#[] }:Deferred)) .returning I=(match resultsOf P fi fn T I1 with
   |some v=>some (.returned v,I1)
   |none=>none)∧Sim P hint sh Γ Pu H I1∧Ex O Γ0 Pu0 H0 I0 Γ Pu H I1∧Keep Γ Pu I Γ Pu I1:=by
 intro ds
 induction ds with
 |nil=>intro I Γ0 Pu0 H0 I0 _ _ hs hs0 hn he;exact ⟨I,rfl,hs,he,Keep.refl⟩
 |cons d ds ih=>
  intro I Γ0 Pu0 H0 I0 hnd hd hs hs0 hn he
  obtain ⟨a,b,c⟩:=hd d (List.mem_cons_self)
  obtain ⟨hnm,hnd'⟩:=List.nodup_cons.1 hnd
  have hnp:¬ Pu d:=fun h=>by obtain ⟨cs,et,fz,ex,sd,hg⟩:=hs.pu d h;rw [c] at hg;cases hg
  obtain ⟨I1,e1,s1,x1,k1⟩:=ih (I:=I.put d (.dfr false)) hnd' (fun r hr=>by
   obtain ⟨a',b',c'⟩:=hd r (List.mem_cons_of_mem _ hr)
   exact ⟨a',b',by rw [IH.get_put,if_neg (by rintro rfl;exact hnm hr)];exact c'⟩) (hs.mark c) hs0 hn (Ex.mark hs0 he (Nat.le_trans hn b) (hs.markPos c))
  refine ⟨I1,?_,s1,x1,Keep.trans ⟨fun _ _ h=>h,fun _ h=>h,fun b' hb'=>by rw [IH.get_put,if_neg (by rintro rfl;exact hnp hb')]⟩ k1⟩
  simp only [List.map_cons,evLeave,c,if_pos a]
  exact e1
theorem gCall_ok (ok:SelfOK P hint sh sf self) (hs:Sim P hint sh Γ Pu H I) {f:FuncId} {args:List TV} {args':List Value} {K:TV→GH→Option β} (h:gCall stx P sh hint sf f args H K=some r) (ha:GRs Γ Pu I args args'):CallGood P hint sh K r Γ Pu H I (evCall P hint self f args' I):=by
 unfold gCall at h
 split at h
 ·rename_i fn hfn
  split at h
  ·rename_i c hc
   replace h:=bif_some h;obtain ⟨hb,h⟩:=h
   obtain ⟨x,E1,H1,Γ1,Pu1,E1',I1,D1,k1,k2,k3,k4,k5,k6,k7⟩:=gC_ok ok h hs (ER.args ha) ⟨fn,c,hfn,hc,rfl,.refl _⟩ (.inl ⟨rfl,rfl⟩) (Dok.nil I.n I) (Nat.le_refl _)
   have hfit:fits fn args'=true:=by unfold fits;rw [ha.length];exact hb
   obtain ⟨ds,d1,rfl,d3⟩:=k6
   obtain ⟨I2,e1,s2,x2,kk⟩:=leave_ok (P:=P) (hint:=hint) (self:=self) (fi:=fiOf hint f fn) (fn:=fn) (T:=E1') d1 d3 k4 hs (Nat.le_refl _) k5
   have key:∀ t,(match ressG P (fiOf hint f fn) E1 H1 fn.results.toList with |some [v]=>K v H1 |some vs=>K (.tup vs) H1 |none=>none)=some r→t=()→CallGood P hint sh K r Γ Pu H I (match resultsOf P (fiOf hint f fn) fn E1' I2 with
     |some v=>some (.returned v,I2)
     |none=>none):=by
    intro _ hk _
    cases hres:ressG P (fiOf hint f fn) E1 H1 fn.results.toList with
    |none=>rw [hres] at hk;cases hk
    |some ts=>
     obtain ⟨vs,m1,m2⟩:=ressG_ok s2 (k3.mono kk) hres
     rw [hres] at hk
     cases ts with
     |nil=>
      cases m2
      have:resultsOf P (fiOf hint f fn) fn E1' I2=some (.tuple ⟨[]⟩):=by simp only [resultsOf,m1]
      rw [this]
      exact ⟨_,_,_,_,_,_,hk,rfl,.tup .nil,s2,x2⟩
     |cons t ts=>
      cases m2 with |cons a b=>
      rename_i v1 vs1
      cases ts with
      |nil=>
       cases b
       have:resultsOf P (fiOf hint f fn) fn E1' I2=some v1:=by simp only [resultsOf,m1]
       rw [this]
       exact ⟨_,_,_,_,_,_,hk,rfl,a,s2,x2⟩
      |cons t2 ts=>
       cases b with |cons b c=>
       rename_i v2 vs2
       have:resultsOf P (fiOf hint f fn) fn E1' I2=some (.tuple ⟨v1::v2::vs2⟩):=by simp only [resultsOf,m1]
       rw [this]
       exact ⟨_,_,_,_,_,_,hk,rfl,.tup (.cons a (.cons b c)),s2,x2⟩
   have hcall:∀ y,(y=X.normal∨y=X.ret)→x=y→evCall P hint self f args' I=(match resultsOf P (fiOf hint f fn) fn E1' I2 with
     |some v=>some (.returned v,I2)
     |none=>none):=by
    intro y hy hxy
    subst hxy
    simp only [evCall,hfn,hc,hfit,if_true,k2]
    rcases hy with rfl |rfl
    ·exact e1
    ·exact e1
   cases x with
   |normal=>rw [hcall _ (.inl rfl) rfl];exact key () k1 rfl
   |ret=>rw [hcall _ (.inr rfl) rfl];exact key () k1 rfl
   |exit id=>cases k1
   |panic v=>cases k1
  ·cases h
 ·cases h
structure HookOK (P:Program) (hint:Hint) (sh:ShT) (hk:Hooks β) (n:Nat):Prop where
 call:∀ {f:FuncId} {g:Nat→List TV→GH→(TV→GH→Option β)→Option β} {args:List TV} {args':List Value} {H:GH} {K:TV→GH→Option β} {r:β} {Γ:Gam} {Pu:Nat→Prop} {I:IH},
  hk.call f=some g→g n args H K=some r→Sim P hint sh Γ Pu H I→GRs Γ Pu I args args'→CallGood P hint sh K r Γ Pu H I (evCall P hint (ev P hint (gspec hint) n) f args' I)
 loop:∀ {fid:Nat} {fi:FI} {ro ro':Option Nat} {c:Code} {g:Nat→GE→GH→(X→GE→GH→Option β)→Option (Option β)} {E:GE} {E':En} {H:GH} {K:X→GE→GH→Option β} {r:β} {Γ:Gam} {Pu:Nat→Prop} {I:IH} {n0:Nat} {D:List Deferred},
  hk.loop fid (firstR c) ro=some g→g n E H K=some (some r)→Sim P hint sh Γ Pu H I→ER Γ Pu I E E'→InF P hint fid fi (.loop c)→RoR Γ ro ro'→Dok n0 I D→n0≤I.n→CodeGood P hint sh K r Γ Pu H I n0 ro D (evCode P (ev P hint (gspec hint) n) fi ro' (.loop c) E' I D)
theorem tab_ok {g:Nat} (hs:Sim P hint sh Γ Pu H I) (hg:g<glN) (h:tabT sh g=true):TabV I g (pow10s.map fun z=> .int .u64 z):=by
 unfold tabT at h
 split at h
 ·rename_i xs hT
  have hx:xs=pow10s:=by simpa using h
  subst hx
  obtain ⟨_,vs,et,fz,ex,sd,h2,h6,h7,h3⟩:=hs.tab g _ hg hT
  refine ⟨vs,et,fz,ex,sd,h2,h6,by rw [h7,List.length_map];exact Nat.mul_one _,fun i v hv=>?_⟩
  rw [List.getElem?_map,Option.map_eq_some_iff] at hv
  obtain ⟨z,hz,rfl⟩:=hv
  obtain ⟨h4,h5⟩:=h3 i z hz
  unfold Enc at h5
  have:(vs.drop (i*1))[0]? =some (.int .u64 z):=by
   have h6:((vs.drop (i*1)).take 1)[0]? =some (Value.int .u64 z):=by
    show ((vs.drop (i*(Sh.int .u64).sz)).take (Sh.int .u64).sz)[0]? =_
    rw [h5];rfl
   rw [List.getElem?_take] at h6
   simpa using h6
  simpa using this
 ·cases h
theorem first_ok {g:Nat} {xs:List UInt8} (hs:Sim P hint sh Γ Pu H I) (hg:g<glN) (h:sh.tb g=some ⟨.byte,xs⟩):TabV I g (xs.map u8V):=by
 obtain ⟨_,vs,et,fz,ex,sd,h2,h6,h7,h3⟩:=hs.tab g _ hg h
 refine ⟨vs,et,fz,ex,sd,h2,h6,by rw [h7,List.length_map];exact Nat.mul_one _,fun i v hv=>?_⟩
 rw [List.getElem?_map,Option.map_eq_some_iff] at hv
 obtain ⟨z,hz,rfl⟩:=hv
 obtain ⟨h4,h5⟩:=h3 i z hz
 unfold Enc at h5
 have h8:((vs.drop (i*1)).take 1)[0]? =some (u8V z):=by
  show ((vs.drop (i*Sh.byte.sz)).take Sh.byte.sz)[0]? =_
  rw [h5];rfl
 rw [List.getElem?_take] at h8
 simpa using h8
theorem acc_ok {g:Nat} {ys:List (UInt8×UInt8)} (hs:Sim P hint sh Γ Pu H I) (hg:g<glN) (h:sh.tb g=some ⟨.cons .byte .byte,ys⟩):TabV I g (ys.flatMap fun p=> [u8V p.1,u8V p.2]):=by
 obtain ⟨_,vs,et,fz,ex,sd,h2,h6,h7,h3⟩:=hs.tab g _ hg h
 have hlen:∀ l:List (UInt8×UInt8),(l.flatMap fun p=> [u8V p.1,u8V p.2]).length=l.length*2:=by
  intro l;induction l with
  |nil=>rfl
  |cons a r ih=>rw [List.flatMap_cons,List.length_append,ih];simp;omega
 refine ⟨vs,et,fz,ex,sd,h2,h6,by rw [h7,hlen];rfl,fun i v hv=>?_⟩
 have hat:∀ (l:List (UInt8×UInt8)) (i:Nat) (v:Value),(l.flatMap fun p=> [u8V p.1,u8V p.2])[i]? =some v→∃ p,l[i / 2]? =some p∧v=if i%2=0 then u8V p.1 else u8V p.2:=by
  intro l
  induction l with
  |nil=>intro i v h;simp at h
  |cons a r ih=>
   intro i v h
   match i,h with
   |0,h=>simp at h;exact ⟨a,by simp,by simp [h]⟩
   |1,h=>simp at h;exact ⟨a,by simp,by simp [h]⟩
   |i+2,h=>
    simp at h
    obtain ⟨p,h1,h2⟩:=ih i v (by simpa using h)
    refine ⟨p,?_,?_⟩
    ·rw [show (i+2) / 2=i / 2+1 by omega];simpa using h1
    ·rw [show (i+2)%2=i%2 by omega];exact h2
 obtain ⟨p,h1,h9⟩:=hat ys i v hv
 obtain ⟨h4,h5⟩:=h3 (i / 2) p h1
 have h5':(vs.drop (i / 2*2)).take 2= [u8V p.1,u8V p.2]:=by
  unfold Enc at h5
  obtain ⟨u,w,e1,e2,e3⟩:=h5
  unfold Enc at e2 e3
  subst e2;subst e3
  exact e1
 have h10:((vs.drop (i / 2*2)).take 2)[i%2]? =some v:=by
  rw [h5',h9]
  rcases Nat.mod_two_eq_zero_or_one i with h |h<;>rw [h]<;>rfl
 rw [List.getElem?_take,if_pos (Nat.mod_lt _ (by decide)),List.getElem?_drop,show i / 2*2+i%2=i by omega] at h10
 exact h10
theorem specT_ok {k g:Nat} {args:List TV} {args':List Value} {K:TV→GH→Option β} (hs:Sim P hint sh Γ Pu H I) (h:specT std sh k g args H K=some (some r)) (ha:GRs Γ Pu I args args'):
  ∃ t v,specV k g args' I=some v∧K t H=some r∧GR Γ Pu I t v:=by
 unfold specT at h
 split at h
 ·cases ha;exact ⟨_,_,rfl,by simpa using h,.bool true⟩
 ·rename_i n
  simp only [Option.some.injEq] at h
  replace h:=bif_some h;obtain ⟨hb,h⟩:=h
  simp only [Bool.and_eq_true] at hb
  have h:=need_some h
  cases ha with |cons a b=>
  cases a;cases b
  refine ⟨_,_,?_,h.2,.str _⟩
  have hg:g<glN:=Nat.le_of_ble_eq_true hb.1
  have:specV 1 g [.int .i64 n] I=some (.string (ba (Lib.itoa n))):=by
   unfold specV
   exact if_pos ⟨h.1,hg,tab_ok hs hg hb.2⟩
  exact this
 ·rename_i s cs
  replace h:=bif_some h;obtain ⟨hb,h⟩:=h
  simp only [Option.some.injEq] at h
  cases ha with |cons a b=>
  cases a
  cases b with |cons a b=>
  cases a;cases b
  refine ⟨_,_,?_,h,.str _⟩
  have:specV 2 g [.string (ba s),.string (ba cs)] I=bif trimOK cs then some (.string (ba (Lib.trimLeftS s cs))) else none:=rfl
  rw [this,hb];rfl
 ·rename_i s
  simp only [Option.some.injEq] at h
  replace h:=bif_some h;obtain ⟨hb,h⟩:=h
  simp only [Bool.and_eq_true] at hb
  have h:=need_some h
  cases ha with |cons a b=>
  cases a;cases b
  refine ⟨_,_,?_,h.2,.bool _⟩
  have hg1:g / 1000<glN:=Nat.le_of_ble_eq_true hb.1
  have hg2:g%1000<glN:=Nat.le_of_ble_eq_true hb.2.1
  have hU:=hb.2.2
  unfold tabU at hU
  rw [Bool.and_eq_true] at hU
  obtain ⟨hU1,hU2⟩:=hU
  have t1:TabV I (g / 1000) (first8.map u8V):=by
   split at hU1
   ·rename_i xs hT
    have hx:xs=first8:=by simpa using hU1
    subst hx
    exact first_ok hs hg1 hT
   ·cases hU1
  have t2:TabV I (g%1000) (acc8.flatMap fun p=> [u8V p.1,u8V p.2]):=by
   split at hU2
   ·rename_i xs hT
    have hx:xs=acc8:=by simpa using hU2
    subst hx
    exact acc_ok hs hg2 hT
   ·cases hU2
  have:specV 3 g [.string (ba s)] I=some (.bool (Lib.validD s)):=by
   unfold specV
   exact if_pos ⟨h.1,⟨hg1,hg2⟩,t1,t2⟩
  exact this
 ·cases h
theorem specT_no {k g:Nat} {args:List TV} {args':List Value} {K:TV→GH→Option β} (h:specT std sh k g args H K=none) (ha:GRs Γ Pu I args args'):specV k g args' I=none:=by
 unfold specT at h
 split at h
 ·cases h
 ·cases h
 ·rename_i s cs
  cases hb:trimOK cs with
  |true=>rw [hb] at h;cases h
  |false=>
   cases ha with |cons a b=>
   cases a
   cases b with |cons a b=>
   cases a;cases b
   have:specV 2 g [.string (ba s),.string (ba cs)] I=bif trimOK cs then some (.string (ba (Lib.trimLeftS s cs))) else none:=rfl
   rw [this,hb];rfl
 ·cases h
 ·cases h
theorem gv_ok {hk:Hooks β}:∀ n,(∀ m,m≤n→HookOK P hint sh hk m)→SelfOK P hint sh (gv stx P sh hint hk n) (ev P hint (gspec hint) n):=by
 intro n
 induction n with
 |zero=>
  intro ho
  refine ⟨(fun h=>by cases h),(fun h=>by cases h),?_⟩
  intro fid fi ro ro' c d E E' H K r Γ Pu I n0 D h hs he hf hr hd hn
  simp only [gv] at h
  cases hst:memP (hint stopL) fid (firstR c) with
  |true=>rw [hst] at h;exact .inr (by cases h)
  |false=>
  rw [hst] at h
  simp only [cond_false] at h
  split at h
  ·rename_i g hg
   split at h
   ·rename_i q hq
    subst h
    exact .inr ((ho 0 (Nat.le_refl _)).loop hg hq hs he hf hr hd hn)
   ·exact .inl h
  ·exact .inl h
 |succ n ih=>
  intro ho
  have hi:=ih fun m hm=>ho m (Nat.le_succ_of_le hm)
  refine ⟨?_,?_,?_⟩
  ·intro f args H K r Γ Pu I args' h hs ha
   simp only [gv] at h
   show CallGood P hint sh K r Γ Pu H I (evCallS P hint (gspec hint) (ev P hint (gspec hint) n) f args' I)
   cases hal:findS (hint specKey) f with
   |some kg=>
    obtain ⟨k,g⟩:=kg
    rw [hal] at h
    simp only at h
    cases hsp:specT stx.cm sh k g args H K with
    |some q=>
     rw [hsp] at h
     simp only at h
     subst h
     obtain ⟨t,v,hv,hK,hr⟩:=specT_ok hs hsp ha
     have e:evCallS P hint (gspec hint) (ev P hint (gspec hint) n) f args' I=some (.returned v,I):=by
      simp only [evCallS,gspec,hal,specR,hv,Option.map_some]
     rw [e]
     exact ⟨_,_,_,_,_,_,hK,rfl,hr,hs,Ex.refl hs⟩
    |none=>
     rw [hsp] at h
     simp only at h
     have hv:=specT_no hsp ha
     have e:evCallS P hint (gspec hint) (ev P hint (gspec hint) n) f args' I=evCall P hint (ev P hint (gspec hint) n) f args' I:=by
      simp only [evCallS,gspec,hal,specR,hv,Option.map_none]
     rw [e]
     split at h
     ·rename_i g hg
      exact (ho n (Nat.le_succ n)).call hg h hs ha
     ·exact gCall_ok hi hs h ha
   |none=>
   have e:evCallS P hint (gspec hint) (ev P hint (gspec hint) n) f args' I=evCall P hint (ev P hint (gspec hint) n) f args' I:=by
    simp only [evCallS,gspec,hal]
   rw [e]
   rw [hal] at h
   simp only at h
   cases hst:memN (hint stopF) f with
   |true=>rw [hst] at h;cases h
   |false=>
   rw [hst] at h
   simp only [cond_false] at h
   split at h
   ·rename_i g hg
    exact (ho n (Nat.le_succ n)).call hg h hs ha
   ·exact gCall_ok hi hs h ha
  ·intro fid fi ro ro' c E E' H K r Γ Pu I n0 D h hs he hf hr hd hn
   exact gC_ok hi h hs he hf hr hd hn
  ·intro fid fi ro ro' c d E E' H K r Γ Pu I n0 D h hs he hf hr hd hn
   simp only [gv] at h
   cases hst:memP (hint stopL) fid (firstR c) with
   |true=>rw [hst] at h;exact .inr (by cases h)
   |false=>
   rw [hst] at h
   simp only [cond_false] at h
   split at h
   ·rename_i g hg
    split at h
    ·rename_i q hq
     subst h
     exact .inr ((ho (n+1) (Nat.le_refl _)).loop hg hq hs he hf hr hd hn)
    ·exact .inl h
   ·exact .inl h
end
end Go.Gv
