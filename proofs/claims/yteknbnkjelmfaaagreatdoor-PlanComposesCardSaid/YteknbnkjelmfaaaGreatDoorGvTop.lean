/- The pure evaluator's code, calls, levels are the ideal one's. -/
import Derived.Test.YteknbnkjelmfaaaGreatDoorGvJoin
set_option linter.unusedSimpArgs false
set_option linter.unusedVariables false
namespace Go.Gv
open Go Go.Iv
section
variable {Z:Type} {P:Program} {hint:Hint} {O:Nat->Prop} {Γ Γ1:aN} {Pu Pu1:Nat->Prop} {H H1:GH} {I I1 I2:IH} {r:Z} {sf:fD Z} {self:Self} {sh:bU}
theorem au.NT (hs:au P hint sh Γ Pu H I) (io:bN):au P hint sh Γ Pu H (I.new io)/\Ex (bk Γ H I) Γ Pu H I Γ Pu H (I.new io):=by
 have getold:∀ b,b<I.n->(I.new io).get b=I.get b:=fun b hb=>by rw [IH.ay,if_neg (Nat.ne_of_lt hb)]
 have hk:cp Γ Pu I Γ Pu (I.new io):=⟨fun _ _ h=>h,fun _ h=>h,fun b hb=>getold b (hs.iT hb)⟩;have hpos:∀ id o l b x,H.get id=some o->o.cY=true->Γ id=some l->l.pos=some (b,x)->(I.new io).get b=I.get b:=fun id o l b x hg hm hl hp=>getold b (hs.bJ (.pos hg hm hl hp))
 refine ⟨⟨?_,hs.HH hpos,fun b h=>hs.sep b (pf hpos h),hs.aT,?_,?_,Nat.le_succ_of_le hs.ro,hs.gn,hs.cq,hs.st,hs.nK hk.p hk.i⟩,⟨fun _ _ h=>h,zal _,Nat.le_succ _,fun _ h=>h,fun b hb _=>getold b hb,fun b _ h=>pf hpos h,fun _ _ h=> .inl h,zal _,fun _ _=> .inr (.inl rfl),?_⟩⟩
 .intro id o hg
  obtain ⟨l,hl,_⟩:=hs.obj id o hg;exact ⟨l,hl,hs.dF hk hg hl fun hm b hat=>getold b (hs.bJ ⟨id,o,l,hg,hm,hl,hat⟩)⟩
 .intro b hb
  have hb':I.n+1<=b:=hb;rw [IH.ay,if_neg (by omega)];exact hs.fresh b (by omega)
 .intro b hb
  obtain ⟨cs,et,fz,ex,sd,hg⟩:=hs.pu b hb;exact ⟨cs,et,fz,ex,sd,(getold b (hs.lt hg)).trans hg⟩
 .intro id l b x s h1 _ hl hp
  exact hs.ey hk h1 hl hp fun o hg hm=>hpos id o l b x hg hm hl hp
theorem au.Qb (hs:au P hint sh Γ Pu H I) {b:Nat} {o o':Bool} (hb:I.get b=some (.mg o)) (id:Nat) (ob:bu) (l:Loc) (b2 x:Nat) (hg:H.get id=some ob) (_:ob.cY=true) (hl:Γ id=some l) (hp:l.pos=some (b2,x)):(I.put b (.mg o')).get b2=I.get b2:=by
 have hno:=hs.ze hb;have hnp:¬ Pu b:=fun h=>by obtain ⟨cs,et,fz,ex,sd,hg⟩:=hs.pu b h;grind
 rw [IH.ag,if_neg (by rintro rfl;exact hs.oI hno hnp hg hl hp)]
theorem au.mark (hs:au P hint sh Γ Pu H I) {b:Nat} {o o':Bool} (hb:I.get b=some (.mg o)):au P hint sh Γ Pu H (I.put b (.mg o')):=by
 have hno:=hs.ze hb;have hnp:¬ Pu b:=fun h=>by obtain ⟨cs,et,fz,ex,sd,hg⟩:=hs.pu b h;grind
 have hk:cp Γ Pu I Γ Pu (I.put b (.mg o')):=⟨fun _ _ h=>h,fun _ h=>h,fun b' hb'=>by rw [IH.ag,if_neg (by grind)]⟩;have hpos:∀ id o l b2 x,H.get id=some o->o.cY=true->Γ id=some l->l.pos=some (b2,x)->(I.put b (.mg o')).get b2=I.get b2:=fun id o l b2 x hg hm hl hp=>by rw [IH.ag,if_neg (by rintro rfl;exact hs.oI hno hnp hg hl hp)]
 refine ⟨?_,hs.HH hpos,fun b h=>hs.sep b (pf hpos h),hs.aT,?_,?_,hs.ro,hs.gn,hs.cq,hs.st,hs.nK hk.p hk.i⟩
 .intro id ob hg
  obtain ⟨l,hl,ho⟩:=hs.obj id ob hg;exact ⟨l,hl,ho.mono hk fun b' hat=>by rw [IH.ag,if_neg (by rintro rfl;exact hs.ib hno hnp hg hl hat)]⟩
 .intro b' hb'
  rw [IH.ag,if_neg (by rintro rfl;rw [hs.fresh b' hb'] at hb;cases hb)];exact hs.fresh b' hb'
 .intro b' hb'
  obtain ⟨cs,et,fz,ex,sd,hg⟩:=hs.pu b' hb';exact ⟨cs,et,fz,ex,sd,(hk.i b' hb').trans hg⟩
theorem Ex.mark (hs:au P hint sh Γ Pu H I) (h:Ex O Γ Pu H I Γ1 Pu1 H1 I1) {b:Nat} {o:Bool} (hb:I.n<=b) (hpos:∀ id o' l b2 x,H1.get id=some o'->o'.cY=true->Γ1 id=some l->l.pos=some (b2,x)->(I1.put b (.mg o)).get b2=I1.get b2):Ex O Γ Pu H I Γ1 Pu1 H1 (I1.put b (.mg o)):=
 ⟨h.g,h.hn,h.n,h.p,fun b' hb' ho=>by rw [IH.ag,if_neg (by omega)];exact h.cE b' hb' ho,(fun b' hb' ho=>h.own b' hb' (pf hpos ho)),h.pn,h.ck,h.wx,fun id l b' x s h1 h2 hl hp=>by
  obtain ⟨ob,hg⟩:=GH.hY h1;have:b'<I.n:=by
   obtain ⟨l',hl',ho⟩:=hs.obj id ob hg;cases hl.symm.trans hl';obtain ⟨io,hio⟩:=ho.zi (.inl ⟨x,hp⟩);exact hs.lt hio
  rw [IH.ag,if_neg (by omega)];exact h.jv id l b' x s h1 h2 hl hp⟩
def Vk (I:IH):Option Nat->Nat
 |none=>I.n+1
 |some _=>I.n
def Ve (I:IH) (D:List Deferred):Option Nat->List Deferred
 |none=>{ target:= .collected I.n,args:=#[] }::D
 |some _=>D
noncomputable def Va (I:IH):Option Nat->IH
 |none=>I.new (.mg true)
 |some _=>I
theorem SH:∀ {a b:List Nat},a.map (fun r=>({ target:= .collected r,args:=#[] }:Deferred))=b.map (fun r=>({ target:= .collected r,args:=#[] }:Deferred))->a=b:=by
 intro a
 induction a with
 |nil=>simp_all
 |cons x a ih=>
  intro b h;cases b with
  |nil=>cases h
  |cons y b=>
   grind
theorem dE.ret (hs:au P hint sh Γ Pu H I) {K:X->GE->GH->Option Z} {x:X} {E:GE} {E':En} {n0:DB} {ro:Option Nat} {D:List Deferred} (h:K x E H=some r) (he:ER Γ Pu I E E') (hd:Aq n0 I D):dE P hint sh K r Γ Pu H I n0 ro D (some (x,E',I,D)):=
 ⟨x,E,H,Γ,Pu,E',I,D,h,rfl,he,hs,Ex.refl hs,hd,fun _=>rfl⟩
theorem Ll {fi:FI} {c:Operand} {b:Bool} {E:GE} {E':En} (he:ER Γ Pu I E E') (hb:eQ fi E' c= .bool b):ER Γ Pu I (Bf fi c b E) E':=by
 unfold Bf;split
 .rename_i k
  refine he.M7 k fi ?_;have:ft fi E' k= .bool b:=hb;rw [this];exact .bool _
 .exact he
theorem Tk (ok:ej P hint sh sf self) {bx:Nat} {fi:FI} {ro ro':Option Nat} {id:Nat} {ops:Array Oper} {dr:Bool} {E:GE} {E':En} {D:List Deferred} {K:X->GE->GH->Option Z}
  (h:gC stx P sh sf bx fi ro (.region id ops dr) E H K=some r) (hs:au P hint sh Γ Pu H I) (he:ER Γ Pu I E E'):
  ∃ x E1 H1 Γ1 Pu1 E1' I1,K x E1 H1=some r/\aK P self fi ro' (.region id ops dr) E' I D=some (x,E1',I1,D)/\ER Γ1 Pu1 I1 E1 E1'/\au P hint sh Γ1 Pu1 H1 I1/\Ex (bk Γ H I) Γ Pu H I Γ1 Pu1 H1 I1:=by
 cases dr with
 |false=>
  simp only [gC] at h;replace h:=ei h;split at h
  .rename_i d hj
   obtain ⟨j1,j2⟩:=E7 hj;simp only [stx] at h;cases hb:qk dS P sh yI fi ops ops.toList E.reset H (fun E _=>vS (fe fi E d)) (fun _ _ _=>none) with
   |none=>grind
   |some b=>
    rw [hb] at h;simp only [zaa] at h
    have hcong:=EU (P:=P) (sh:=sh) (sf:=yI) (KP:=fun _ _ _=>none) (H:=H) (fi:=fi) (ops:=ops) (E0:=E.reset) (d:=d) (fun o ho=>(j1 o ho).2)
     (K1:=fun E _=>vS (fe fi E d)) (K2:=fun E1 H1=>@ite _ (H1=H/\∀ t,(cls fi d= .loc->t≠d)->eT E1.loc t=eT E.loc t) (Classical.propDecidable _) (vS (fe fi E1 d)) none)
     (fun E1 h1=>by rw [if_pos ⟨rfl,h1⟩]) ops.toList E.reset j1 (fun _ _=>rfl)
    rw [hcong] at hb;rcases Qm (ro:=ro') (D:=D) (Hr (self:=self)) hb hs he.reset with ⟨E1,H1,Γ1,Pu1,E1',I1,k1,k2,k3,k4,k5⟩ |⟨_,_,_,_,_,_,_,k1,_⟩
    case inr=>cases k1
    dsimp only at k1;by_cases hq:H1=H/\∀ t,(cls fi d= .loc->t≠d)->eT E1.loc t=eT E.loc t
    .rw [if_pos hq] at k1
     obtain ⟨rfl,hloc⟩:=hq;have hv:fe fi E1 d= .bool b:=by
      unfold vS at k1;split at k1
      .rename_i hh;cases k1;exact hh
      .cases k1
     refine ⟨.normal,cO fi d (.bool b) E.reset,H1,Γ1,Pu1,E1',I1,h,k2,?_,k4,k5⟩;rcases j2 with j2 |j2
     .have hE:cO fi d (.bool b) E.reset=⟨mP E.loc d (.bool b),.e⟩:=by unfold cO;rw [j2];rfl
      have hv:eT E1.loc d= .bool b:=by unfold fe at hv;rw [j2] at hv;exact hv
      rw [hE];intro t;refine ⟨?_,.undef _⟩
      show GR Γ1 Pu1 I1 (eT (mP E.loc d (.bool b)) t) (lk E1'.loc t)
      rw [fy];split
      .rename_i ht;subst ht;rw [←hv];exact (k3 t).1
      .rename_i ht;rw [←hloc t fun _=>ht];exact (k3 t).1
     .have hE:cO fi d (.bool b) E.reset=⟨E.loc,.c d (.bool b) .e⟩:=by unfold cO;rw [j2];rfl
      have hv:eT E1.tmp d= .bool b:=by unfold fe at hv;rw [j2] at hv;exact hv
      rw [hE];intro t;have hld:∀ t,eT E1.loc t=eT E.loc t:=fun t=>hloc t fun hh=>by rw [j2] at hh;cases hh
      refine ⟨by rw [←hld t];exact (k3 t).1,?_⟩
      show GR Γ1 Pu1 I1 (eT (.c d (.bool b) .e) t) (lk E1'.tmp t)
      simp only [eT];cases hbq:Nat.beq d t with
      |true=>rw [←Nat.eq_of_beq_eq_true hbq,←hv];exact (k3 d).2
      |false=>exact .undef _
    grind
  .rcases MV (ro:=ro') (D:=D) ok _ (zal _) h hs he.reset with ⟨E1,H1,Γ1,Pu1,E1',I1,k1,k2,k3,k4,k5⟩ |⟨E1,w,H1,Γ1,Pu1,E1',I1,k1,k2,k3,k4,k5⟩
   .exact ⟨.normal,E1,H1,Γ1,Pu1,E1',I1,k1,k2,k3,k4,k5⟩
   .exact ⟨.panic w,E1,H1,Γ1,Pu1,E1',I1,k1,k2,k3,k4,k5⟩
 |true=>
  simp only [gC] at h;replace h:=ei h;rcases KV (D:=D) ok h hs he.reset with ⟨E1,H1,Γ1,Pu1,E1',I1,k1,k2,k3,k4,k5⟩ |⟨E1,w,H1,Γ1,Pu1,E1',I1,k1,k2,k3,k4,k5⟩
  .exact ⟨.normal,E1,H1,Γ1,Pu1,E1',I1,k1,k2,k3,k4,k5⟩
  .exact ⟨.panic w,E1,H1,Γ1,Pu1,E1',I1,k1,k2,k3,k4,k5⟩
theorem MW (ok:ej P hint sh sf self) {bx:Nat} {fi:FI} {ro ro':Option Nat}:∀ {c:Code} {E:GE} {E':En} {H:GH} {I:IH} {Γ:aN} {Pu:Nat->Prop} {n0:DB} {D:List Deferred} {K:X->GE->GH->Option Z},
  gC stx P sh sf bx fi ro c E H K=some r->au P hint sh Γ Pu H I->ER Γ Pu I E E'->J9 P hint bx fi c->Kc Γ ro ro'->Aq n0 I D->n0.n<=I.n->dE P hint sh K r Γ Pu H I n0 ro D (aK P self fi ro' c E' I D):=by
 intro c
 induction c with
 |skip=>intro E E' H I Γ Pu n0 D K h hs he hf hr hd hn;exact dE.ret hs h he hd
 |label l=>intro E E' H I Γ Pu n0 D K h hs he hf hr hd hn;exact dE.ret hs h he hd
 |exit id=>intro E E' H I Γ Pu n0 D K h hs he hf hr hd hn;exact dE.ret hs h he hd
 |ret=>intro E E' H I Γ Pu n0 D K h hs he hf hr hd hn;exact dE.ret hs h he hd
 |goto l=>intro E E' H I Γ Pu n0 D K h hs he hf hr hd hn;cases h
 |refuse w=>intro E E' H I Γ Pu n0 D K h hs he hf hr hd hn;cases h
 |region id ops dr=>
  intro E E' H I Γ Pu n0 D K h hs he hf hr hd hn;obtain ⟨x,E1,H1,Γ1,Pu1,E1',I1,k1,k2,k3,k4,k5⟩:=Tk (ro':=ro') (D:=D) ok h hs he;exact ⟨x,E1,H1,Γ1,Pu1,E1',I1,D,k1,k2,k3,k4,k5,hd.ex hs k5,fun _=>rfl⟩
 |seq a b iha ihb=>
  intro E E' H I Γ Pu n0 D K h hs he hf hr hd hn;obtain ⟨x,E1,H1,Γ1,Pu1,E1',I1,D1,k1,k2,k3,k4,k5,k6,k7⟩:=iha h hs he (hf.sub (.MY (.refl _))) hr hd hn;cases x with
  |normal=>
   obtain ⟨x,E2,H2,Γ2,Pu2,E2',I2,D2,j1,j2,j3,j4,j5,j6,j7⟩:=ihb k1 k4 k3 (hf.sub (.NA (.refl _))) (hr.mono k5.g) k6 (Nat.le_trans hn k5.n);exact ⟨x,E2,H2,Γ2,Pu2,E2',I2,D2,j1,by simp only [aK,k2,j2],j3,j4,Ex.trans hs k4 k5 j5,j6,fun h=>(j7 h).trans (k7 h)⟩
  |exit id=>exact ⟨_,E1,H1,Γ1,Pu1,E1',I1,D1,k1,by simp only [aK,k2],k3,k4,k5,k6,k7⟩
  |ret=>exact ⟨_,E1,H1,Γ1,Pu1,E1',I1,D1,k1,by simp only [aK,k2],k3,k4,k5,k6,k7⟩
  |panic v=>exact ⟨_,E1,H1,Γ1,Pu1,E1',I1,D1,k1,by simp only [aK,k2],k3,k4,k5,k6,k7⟩
 |cond c a b iha ihb=>
  intro E E' H I Γ Pu n0 D K h hs he hf hr hd hn;have hc:=cR (fi:=fi) hs he c;simp only [gC] at h;split at h
  .rename_i t ht
   rw [ht] at hc;unfold dE;simp only [aK];have M7:∀ b,eQ fi E' c= .bool b->ER Γ Pu I (Bf fi c b E) E':=fun b hb=>Ll he hb
   generalize hcv:eQ fi E' c=cv at hc;cases hc;rcases jX h with ⟨rfl,h⟩ |⟨rfl,h⟩
   .exact iha (ei h) hs (M7 _ hcv) (hf.sub (.CJ (.refl _))) hr hd hn
   .exact ihb (ei h) hs (M7 _ hcv) (hf.sub (.De (.refl _))) hr hd hn
  .cases h
 |block id c ih=>
  intro E E' H I Γ Pu n0 D K h hs he hf hr hd hn;obtain ⟨x,E1,H1,Γ1,Pu1,E1',I1,D1,k1,k2,k3,k4,k5,k6,k7⟩:=ih h hs he (hf.sub (.block (.refl _))) hr hd hn;cases x with
  |normal=>exact ⟨_,E1,H1,Γ1,Pu1,E1',I1,D1,k1,by simp only [aK,k2],k3,k4,k5,k6,k7⟩
  |ret=>exact ⟨_,E1,H1,Γ1,Pu1,E1',I1,D1,k1,by simp only [aK,k2],k3,k4,k5,k6,k7⟩
  |panic v=>exact ⟨_,E1,H1,Γ1,Pu1,E1',I1,D1,k1,by simp only [aK,k2],k3,k4,k5,k6,k7⟩
  |exit j=>
   simp only at k1;by_cases hj:j=id
   .subst hj
    rw [Nat.beq_refl] at k1;exact ⟨_,E1,H1,Γ1,Pu1,E1',I1,D1,k1,by simp only [aK,k2,if_true],k3,k4,k5,k6,k7⟩
   .rw [gM hj] at k1
    exact ⟨_,E1,H1,Γ1,Pu1,E1',I1,D1,k1,by simp only [aK,k2,if_neg hj],k3,k4,k5,k6,k7⟩
 |scope c ih=>
  intro E E' H I Γ Pu n0 D K h hs he hf hr hd hn;exact ih h hs he (hf.sub (.scope (.refl _))) hr hd hn
 |loop c ih=>
  intro E E' H I Γ Pu n0 D K h hs he hf hr hd hn;rcases ok.loop h hs he hf hr hd hn with h |h
  .obtain ⟨x,E1,H1,Γ1,Pu1,E1',I1,D1,k1,k2,k3,k4,k5,k6,k7⟩:=ih h hs he (hf.sub (.loop (.refl _))) hr hd hn
   cases x with
   |normal=>
    obtain ⟨x,E2,H2,Γ2,Pu2,E2',I2,D2,j1,j2,j3,j4,j5,j6,j7⟩:=ok.code k1 k4 k3 hf (hr.mono k5.g) k6 (Nat.le_trans hn k5.n);exact ⟨x,E2,H2,Γ2,Pu2,E2',I2,D2,j1,by simp only [aK,k2,j2],j3,j4,Ex.trans hs k4 k5 j5,j6,fun h=>(j7 h).trans (k7 h)⟩
   |exit id=>exact ⟨_,E1,H1,Γ1,Pu1,E1',I1,D1,k1,by simp only [aK,k2],k3,k4,k5,k6,k7⟩
   |ret=>exact ⟨_,E1,H1,Γ1,Pu1,E1',I1,D1,k1,by simp only [aK,k2],k3,k4,k5,k6,k7⟩
   |panic v=>exact ⟨_,E1,H1,Γ1,Pu1,E1',I1,D1,k1,by simp only [aK,k2],k3,k4,k5,k6,k7⟩
  .exact h
 |rangeFunc f ps eo body iha ihb=>
  intro E E' H I Γ Pu n0 D K h hs he hf hr hd hn;have hfo:=cR (fi:=fi) hs he f;simp only [gC] at h;replace h:=ad h;obtain ⟨hlo,h⟩:=h;split at h
  .rename_i g first captured hfe
   rw [hfe] at hfo
   have pre:∃ I0 D0 lv,au P hint sh Γ Pu H I0/\Ex (bk Γ H I) Γ Pu H I Γ Pu H I0/\Aq n0 I0 D0/\lv=I0.n/\(ro.isSome=true->D0=D)/\
     (qG I ro'=true)/\Vk I ro'=lv/\Ve I D ro'=D0/\Va I ro'=I0:=by
    rcases hr with ⟨rfl,rfl⟩ |⟨l,b,loc,rfl,rfl,hl,hp⟩
    .obtain ⟨s0,e0⟩:=hs.NT (.mg true)
     refine ⟨I.new (.mg true),_,_,s0,e0,?_,rfl,(fun h=>by cases h),rfl,rfl,rfl,rfl⟩;obtain ⟨ds,d1,d2,d3⟩:=hd.ex hs e0;obtain ⟨ds',d1',d2',d3'⟩:=hd;have hds:ds=ds':=SH (List.append_cancel_right (d2.symm.trans d2'));subst hds;refine ⟨I.n::ds,List.nodup_cons.2 ⟨fun hm=>?_,d1⟩,by rw [d2];rfl,fun r hr=>?_⟩
     .have:=(d3' _ hm).2.2
      rw [hs.fresh _ (zal _)] at this;cases this
     .rcases List.mem_cons.1 hr with rfl |hr
      .exact ⟨hs.ro,hn,by rw [IH.ay,if_pos rfl]⟩
      grind
    .refine ⟨I,D,_,hs,Ex.refl hs,hd,rfl,fun _=>rfl,?_,rfl,rfl,rfl⟩
     simp only at hlo;split at hlo
     .rename_i hg
      obtain ⟨l',hl',ho⟩:=hs.obj _ _ hg;cases hl.symm.trans hl';obtain ⟨b',F',hp',_,hgb,_⟩:=ho;cases hp.symm.trans hp';simp only [qG,hgb]
     .cases hlo
   obtain ⟨I0,D0,lv,s0,e0,d0,hlv,hDro,hla,q1,q2,q3⟩:=pre;have he0:=he.mono (e0.cy hs)
   obtain ⟨s1,e1⟩:=s0.new (.loop bx .ready none fi E ps.toList eo body) (.loop .ready none fi E' ps.toList eo body) ⟨some (I0.n,0),0,0,0⟩ 0 rfl
    ⟨I0.n,E',rfl,s0.ro,by rw [IH.ay,if_pos rfl],he0.mono (jR s0 _ _),f,ps,hf,rfl⟩
   have hup:(Γ.up H.n ⟨some (I0.n,0),0,0,0⟩) H.n=some ⟨some (I0.n,0),0,0,0⟩:=by simp [aN.up]
   have e01:=Ex.trans hs s0 e0 e1;generalize hov:eQ fi E' f=fv at hfo;cases hfo with |fn ra rc=>
   rename_i first' captured';have hargs:=((ra.mono (e01.cy hs)).append (br.cons (GR.mo hup rfl) .nil)).append (rc.mono (e01.cy hs));rcases ok.call h s1 hargs with ⟨t,H2,Γ2,Pu2,v,I2,k1,k2,k3,k4,k5⟩ |⟨w,H2,Γ2,Pu2,I2,k1,k2,k4,k5⟩
   case inr=>
    have k1:K (.panic w) E H2=some r:=k1;have k2':self.call g (first'++ [Value.func (.yield I0.n) #[] #[]]++captured') (I0.new (.loop .ready none fi E' ps.toList eo body))=some (.panicked w,I2):=k2;have eall:=Ex.trans hs s1 e01 k5;refine ⟨.panic w,E,H2,Γ2,Pu2,E',I2,D0,k1,?_,he.mono (eall.cy hs),k4,eall,d0.ex s0 (Ex.trans s0 s1 e1 k5),hDro⟩;rcases hr with ⟨rfl,rfl⟩ |⟨l,b,loc,rfl,rfl,hl,hp⟩
    .have q1':I.n+1=I0.n:=q1.trans hlv
     have q2':({ target:= .collected I.n,args:=#[] }:Deferred)::D=D0:=q2;have q3':I.new (.mg true)=I0:=q3;simp only [aK,hla,zag,Bool.false_eq_true,if_false,hov,q1',q2',q3',k2']
    .have q1':I.n=I0.n:=q1.trans hlv
     have q2':D=D0:=q2;have q3':I=I0:=q3;have hla':qG I0 (some b)=true:=q3'▸hla;simp only [aK,hla',zag,Bool.false_eq_true,if_false,hov,q2',q3',k2']
   simp only [yM k3] at k1;split at k1
   .rename_i fid2 st pd fi2 E2 ps2 asg2 body2 hg2
    cases hbz:(st==LoopState.busy) with
    |true=>grind
    |false=>
     rw [hbz] at k1;simp only [zab] at k1;obtain ⟨l2,hl2,ho2⟩:=k4.obj _ _ hg2;cases (k5.g _ _ hup).symm.trans hl2;obtain ⟨b2,E2',hp2,hro2,hgb2,hE2,hi5⟩:=ho2;cases hp2
     have hke:cp Γ2 Pu2 I2 Γ2 Pu2 (I2.put I0.n (.loop .exhausted pd fi2 E2' ps2 asg2 body2)):=
      ⟨fun _ _ h=>h,fun _ h=>h,fun b' hb'=>by rw [IH.ag,if_neg (by rintro rfl;exact k4.sep _ (.pos hg2 rfl hl2 rfl) hb')]⟩
     obtain ⟨s3,e3⟩:=k4.gS hg2 rfl hl2 rfl (.loop fid2 .exhausted pd fi2 E2 ps2 asg2 body2) (.loop .exhausted pd fi2 E2' ps2 asg2 body2)
      ⟨I0.n,E2',rfl,hro2,by rw [IH.ag,if_pos rfl],hE2.mono hke,hi5⟩
     have eall:=Ex.trans hs s1 e01 (Ex.trans s1 k4 k5 e3);have dall:Aq n0 (I2.put I0.n (.loop .exhausted pd fi2 E2' ps2 asg2 body2)) D0:=d0.ex s0 (Ex.trans s0 s1 e1 (Ex.trans s1 k4 k5 e3));have heall:=he.mono (eall.cy hs);have hev:∀ x,(match pd with |none=>some (X.normal,E',I2.put I0.n (.loop .exhausted pd fi2 E2' ps2 asg2 body2),D0) |some .ret=>some (.ret,E',I2.put I0.n (.loop .exhausted pd fi2 E2' ps2 asg2 body2),D0) |some (.exit id)=>some (.exit id,E',I2.put I0.n (.loop .exhausted pd fi2 E2' ps2 asg2 body2),D0) |_=>none)=some x->aK P self fi ro' (.rangeFunc f ps eo body) E' I D=some x:=by
      intro x hx;have k2':self.call g (first'++ [Value.func (.yield I0.n) #[] #[]]++captured') (I0.new (.loop .ready none fi E' ps.toList eo body))=some (.returned v,I2):=k2;rcases hr with ⟨rfl,rfl⟩ |⟨l,b,loc,rfl,rfl,hl,hp⟩
      .have q1':I.n+1=I0.n:=q1.trans hlv
       have q2':({ target:= .collected I.n,args:=#[] }:Deferred)::D=D0:=q2;have q3':I.new (.mg true)=I0:=q3;simp only [aK,hla,zag,Bool.false_eq_true,if_false,hov,q1',q2',q3',k2',hgb2,hbz];exact hx
      .have q1':I.n=I0.n:=q1.trans hlv
       have q2':D=D0:=q2;have q3':I=I0:=q3;have hla':qG I0 (some b)=true:=q3'▸hla;simp only [aK,hla',zag,Bool.false_eq_true,if_false,hov,q2',q3',k2',hgb2,hbz];exact hx
     split at k1
     .exact ⟨_,E,_,_,_,E',_,D0,k1,hev _ rfl,heall,s3,eall,dall,hDro⟩
     .exact ⟨_,E,_,_,_,E',_,D0,k1,hev _ rfl,heall,s3,eall,dall,hDro⟩
     .exact ⟨_,E,_,_,_,E',_,D0,k1,hev _ rfl,heall,s3,eall,dall,hDro⟩
     .cases k1
   .cases k1
  .cases h
theorem O8 (hs:au P hint sh Γ Pu H I) {fi:FI} {E:GE} {E':En} (he:ER Γ Pu I E E') {rv:ResultVar} {t:TV} (h:Qa P fi E H rv=some t):∃ v,gq P fi E' I rv=some v/\GR Γ Pu I t v:=by
 cases rv with
 |tmp d=>
  unfold Qa at h;cases h;exact ⟨_,rfl,cR (fi:=fi) hs he (.tmp d)⟩
 |cell a ty=>
  unfold Qa at h;have hv:=cR (fi:=fi) hs he (.tmp a);simp only at h;split at h
  .rename_i id off ha
   have hv':GR Γ Pu I (fe fi E a) (ft fi E' a):=hv;rw [ha] at hv';generalize hov:ft fi E' a=av at hv';cases hv' with |ptr hl hp=>
   split at h
   .rename_i et cs w hg
    replace h:=ad h;obtain ⟨hb,h⟩:=h;obtain ⟨l',hl',ho⟩:=hs.obj id _ hg;cases hl.symm.trans hl';obtain ⟨b',vs,fz,ex,sd,hp',hgb,hr,_,_⟩:=ho;cases hp.symm.trans hp';obtain ⟨q1,q2⟩:=hr.whole off (aF hb);obtain ⟨v,hv,hrv⟩:=iA (P:=P) (t:=ty) hgb q1 q2 h;exact ⟨v,by simp only [gq,hov];exact hv,hrv⟩
   .cases h
  .cases h
theorem Nr (hs:au P hint sh Γ Pu H I) {fi:FI} {E:GE} {E':En} (he:ER Γ Pu I E E'):∀ {rs:List ResultVar} {ts:List TV},xU P fi E H rs=some ts->∃ vs,rs.mapM (gq P fi E' I)=some vs/\br Γ Pu I ts vs:=by
 intro rs
 induction rs with
 |nil=>intro ts h;unfold xU at h;cases h;exact ⟨[],rfl,.nil⟩
 |cons rv rs ih=>
  intro ts h;unfold xU at h;split at h
  .rename_i t ts' h1 h2
   cases h;obtain ⟨v,e1,r1⟩:=O8 hs he h1;obtain ⟨vs,e2,r2⟩:=ih h2;exact ⟨v::vs,by grind,.cons r1 r2⟩
  .cases h
theorem KF {fi:FI} {fn:Func} {T:En} {n0:Nat} {D0:List Deferred} {u:Iv.Mode}:∀ {ds:List Nat} {I:IH} {Γ0:aN} {Pu0:Nat->Prop} {H0:GH} {I0:IH},ds.Nodup->(∀ r∈ds,ep<=r/\n0<=r/\I.get r=some (.mg true))->au P hint sh Γ Pu H I->au P hint sh Γ0 Pu0 H0 I0->I0.n<=n0->Ex O Γ0 Pu0 H0 I0 Γ Pu H I->
  ∃ I1,ew P hint self fi fn T (ds.map (fun r=>({ target:= .collected r,args:=#[] }:Deferred))++D0) u I=ew P hint self fi fn T D0 u I1/\au P hint sh Γ Pu H I1/\Ex O Γ0 Pu0 H0 I0 Γ Pu H I1/\cp Γ Pu I Γ Pu I1:=by
 intro ds
 induction ds with
 |nil=>intro I Γ0 Pu0 H0 I0 _ _ hs hs0 hn he;exact ⟨I,rfl,hs,he,cp.refl⟩
 |cons d ds ih=>
  intro I Γ0 Pu0 H0 I0 hnd hd hs hs0 hn he;obtain ⟨a,b,c⟩:=hd d (List.mem_cons_self);obtain ⟨hnm,hnd'⟩:=List.nodup_cons.1 hnd;have hnp:¬ Pu d:=fun h=>by obtain ⟨cs,et,fz,ex,sd,hg⟩:=hs.pu d h;grind
  obtain ⟨I1,e1,s1,x1,k1⟩:=ih (I:=I.put d (.mg false)) hnd' (fun r hr=>by
   obtain ⟨a',b',c'⟩:=hd r (zan _ hr);exact ⟨a',b',by rw [IH.ag,if_neg (by grind)];exact c'⟩) (hs.mark c) hs0 hn (Ex.mark hs0 he (Nat.le_trans hn b) (hs.Qb c))
  refine ⟨I1,?_,s1,x1,cp.trans ⟨fun _ _ h=>h,fun _ h=>h,fun b' hb'=>by rw [IH.ag,if_neg (by grind)]⟩ k1⟩;simp only [List.map_cons,List.cons_append,ew,c,if_pos a];exact e1
theorem Pd {fi:FI} {fn:Func} {E:GE} {E':En} {K:TV->GH->Option Z} (h:Qz P fi fn E H K=some r) (hs:au P hint sh Γ Pu H I) (he:ER Γ Pu I E E'):∃ t v,K t H=some r/\GR Γ Pu I t v/\fN P fi fn E' I=some v:=by
 unfold Qz at h;cases hres:xU P fi E H fn.results.toList with
 |none=>grind
 |some ts=>
  obtain ⟨vs,m1,m2⟩:=Nr hs he hres;rw [hres] at h;cases ts with
  |nil=>
   cases m2;exact ⟨_,_,h,.ja .nil,by simp only [fN,m1]⟩
  |cons t ts=>
   cases m2 with |cons a b=>
   rename_i v1 vs1;cases ts with
   |nil=>
    cases b;exact ⟨_,_,h,a,by simp only [fN,m1]⟩
   |cons t2 ts=>
    cases b with |cons b c=>
    exact ⟨_,_,h,.ja (.cons a (.cons b c)),by simp only [fN,m1]⟩
theorem HC (ok:ej P hint sh sf self) (hs:au P hint sh Γ Pu H I) {f:FuncId} {fn:Func} {c:Code} {pre:List Code} {ops:Array Oper} {o:Oper} {x:Operand} {xs:Array Operand} {rest:Code} {args:List TV} {args':List Value} {K:TV->GH->Option Z} (hfn:P.funcs[f]? =some fn) (hc:fn.body=some c) (hfit:fits fn args'=true)
  (hd:zp c=some (pre,ops,o,x,xs,rest)) (h:D8 stx P sh hint sf f fn pre ops o x xs rest args H K=some r) (ha:br Γ Pu I args args'):gb P hint sh K r Γ Pu H I (cX P hint self f args' I):=by
 unfold D8 at h;cases h
theorem pT (ok:ej P hint sh sf self) (hs:au P hint sh Γ Pu H I) {f:FuncId} {args:List TV} {args':List Value} {K:TV->GH->Option Z} (h:nc stx P sh hint sf f args H K=some r) (ha:br Γ Pu I args args'):gb P hint sh K r Γ Pu H I (cX P hint self f args' I):=by
 unfold nc at h;split at h
 .rename_i fn hfn
  split at h
  .rename_i c hc
   replace h:=ad h;obtain ⟨hb,h⟩:=h;have hfit:fits fn args'=true:=by unfold fits;rw [ha.length];exact hb
   split at h
   .rename_i pre ops o x xs rest hd
    exact HC ok hs hfn hc hfit hd h ha
   .obtain ⟨x,E1,H1,Γ1,Pu1,E1',I1,D1,k1,k2,k3,k4,k5,k6,k7⟩:=MW ok h hs (ER.args ha) ⟨fn,c,hfn,hc,rfl,.refl _⟩ (.inl ⟨rfl,rfl⟩) (Aq.nil I.n [] I) (zal _)
    obtain ⟨ds,d1,hD,d3⟩:=k6;subst hD;have fin:∀ u0,cX P hint self f args' I=ew P hint self (pE hint f fn) fn E1' (ds.map (fun r=>({ target:= .collected r,args:=#[] }:Deferred))++ []) u0 I1->∃ I2,cX P hint self f args' I=ew P hint self (pE hint f fn) fn E1' [] u0 I2/\au P hint sh Γ1 Pu1 H1 I2/\Ex (bk Γ H I) Γ Pu H I Γ1 Pu1 H1 I2/\cp Γ1 Pu1 I1 Γ1 Pu1 I2:=fun u0 e=>by
     obtain ⟨I2,e1,s2,x2,kk⟩:=KF (P:=P) (hint:=hint) (self:=self) (fi:=pE hint f fn) (fn:=fn) (T:=E1') (D0:= []) (u:=u0) d1 d3 k4 hs (zal _) k5
     grind
    have ret:Qz P (pE hint f fn) fn E1 H1 K=some r->cX P hint self f args' I=ew P hint self (pE hint f fn) fn E1' (ds.map (fun r=>({ target:= .collected r,args:=#[] }:Deferred))++ []) .returning I1->gb P hint sh K r Γ Pu H I (cX P hint self f args' I):=fun hres e=>by
     obtain ⟨I2,e1,s2,x2,kk⟩:=fin _ e;obtain ⟨t,v,m1,m2,m3⟩:=Pd hres s2 (k3.mono kk);exact .inl ⟨t,H1,Γ1,Pu1,v,I2,m1,by rw [e1];simp only [ew,m3],m2,s2,x2⟩
    cases x with
    |normal=>exact ret k1 (by simp only [cX,hfn,hc,hfit,if_true,k2])
    |ret=>exact ret k1 (by simp only [cX,hfn,hc,hfit,if_true,k2])
    |exit id=>cases k1
    |panic w=>
     obtain ⟨I2,e1,s2,x2,kk⟩:=fin (.panicking w false) (by simp only [cX,hfn,hc,hfit,if_true,k2]);exact .inr ⟨w,H1,Γ1,Pu1,I2,k1,by rw [e1];rfl,s2,x2⟩
  .cases h
 .cases h
structure rC (P:Program) (hint:Hint) (sh:bU) (hk:rW Z) (n:Nat):Prop where
 call:∀ {f:FuncId} {g:Nat->List TV->GH->(TV->GH->Option Z)->Option Z} {args:List TV} {args':List Value} {H:GH} {K:TV->GH->Option Z} {r:Z} {Γ:aN} {Pu:Nat->Prop} {I:IH},
  hk.call f=some g->g n args H K=some r->au P hint sh Γ Pu H I->br Γ Pu I args args'->gb P hint sh K r Γ Pu H I (cX P hint (ev P hint (cj hint) n) f args' I)
 loop:∀ {bx:Nat} {fi:FI} {ro ro':Option Nat} {c:Code} {g:Nat->GE->GH->(X->GE->GH->Option Z)->Option (Option Z)} {E:GE} {E':En} {H:GH} {K:X->GE->GH->Option Z} {r:Z} {Γ:aN} {Pu:Nat->Prop} {I:IH} {n0:DB} {D:List Deferred},
  hk.loop bx (dA c) ro=some g->g n E H K=some (some r)->au P hint sh Γ Pu H I->ER Γ Pu I E E'->J9 P hint bx fi (.loop c)->Kc Γ ro ro'->Aq n0 I D->n0.n<=I.n->dE P hint sh K r Γ Pu H I n0 ro D (aK P (ev P hint (cj hint) n) fi ro' (.loop c) E' I D)
theorem R9 {g:Nat} (hs:au P hint sh Γ Pu H I) (hg:g<bI) (h:SL sh g=true):Ai I g (lD.map fun z=> .int .u64 z):=by
 unfold SL at h;split at h
 .rename_i xs hT
  have hx:xs=lD:=by simpa using h
  subst hx;obtain ⟨_,vs,et,fz,ex,sd,h2,h6,h7,h3⟩:=hs.FT g _ hg hT;refine ⟨vs,et,fz,ex,sd,h2,h6,by rw [h7,List.length_map];exact Nat.mul_one _,fun i v hv=>?_⟩;rw [List.getElem?_map,Option.map_eq_some_iff] at hv;obtain ⟨z,hz,rfl⟩:=hv;obtain ⟨h4,h5⟩:=h3 i z hz;unfold bA at h5;have:(vs.drop (i*1))[0]? =some (.int .u64 z):=by
   have h6:((vs.drop (i*1)).take 1)[0]? =some (Value.int .u64 z):=by
    show ((vs.drop (i*(Sh.int .u64).sz)).take (Sh.int .u64).sz)[0]? =_
    rw [h5];rfl
   rw [List.getElem?_take] at h6;simpa using h6
  grind
 .cases h
theorem Ma {g:Nat} {xs:List UInt8} (hs:au P hint sh Γ Pu H I) (hg:g<bI) (h:sh.tb g=some ⟨.byte,xs⟩):Ai I g (xs.map rX):=by
 obtain ⟨_,vs,et,fz,ex,sd,h2,h6,h7,h3⟩:=hs.FT g _ hg h;refine ⟨vs,et,fz,ex,sd,h2,h6,by rw [h7,List.length_map];exact Nat.mul_one _,fun i v hv=>?_⟩;rw [List.getElem?_map,Option.map_eq_some_iff] at hv;obtain ⟨z,hz,rfl⟩:=hv;obtain ⟨h4,h5⟩:=h3 i z hz;unfold bA at h5;have h8:((vs.drop (i*1)).take 1)[0]? =some (rX z):=by
  show ((vs.drop (i*Sh.byte.sz)).take Sh.byte.sz)[0]? =_
  rw [h5];rfl
 grind
theorem Sv {g:Nat} {ys:List (UInt8×UInt8)} (hs:au P hint sh Γ Pu H I) (hg:g<bI) (h:sh.tb g=some ⟨.cons .byte .byte,ys⟩):Ai I g (ys.flatMap fun p=> [rX p.1,rX p.2]):=by
 obtain ⟨_,vs,et,fz,ex,sd,h2,h6,h7,h3⟩:=hs.FT g _ hg h;have hlen:∀ l:List (UInt8×UInt8),(l.flatMap fun p=> [rX p.1,rX p.2]).length=l.length*2:=by
  intro l;induction l with
  |nil=>rfl
  |cons a r ih=>rw [List.flatMap_cons,zaf,ih];simp;omega
 refine ⟨vs,et,fz,ex,sd,h2,h6,by rw [h7,hlen];rfl,fun i v hv=>?_⟩;have hat:∀ (l:List (UInt8×UInt8)) (i:Nat) (v:Value),(l.flatMap fun p=> [rX p.1,rX p.2])[i]? =some v->∃ p,l[i / 2]? =some p/\v=if i%2=0 then rX p.1 else rX p.2:=by
  intro l
  induction l with
  |nil=>intro i v h;simp at h
  |cons a r ih=>
   intro i v h
   match i,h with
   |0,h=>simp at h;exact ⟨a,by simp,by simp [h]⟩
   |1,h=>simp at h;exact ⟨a,by simp,by simp [h]⟩
   |i+2,h=>
    simp at h;obtain ⟨p,h1,h2⟩:=ih i v (by simpa using h);refine ⟨p,?_,?_⟩
    .rw [show (i+2) / 2=i / 2+1 by omega];simpa using h1
    .rw [show (i+2)%2=i%2 by omega];exact h2
 obtain ⟨p,h1,h9⟩:=hat ys i v hv;obtain ⟨h4,h5⟩:=h3 (i / 2) p h1;have h5':(vs.drop (i / 2*2)).take 2= [rX p.1,rX p.2]:=by
  unfold bA at h5;obtain ⟨u,w,e1,e2,e3⟩:=h5;unfold bA at e2 e3;subst e2;subst e3;exact e1
 have h10:((vs.drop (i / 2*2)).take 2)[i%2]? =some v:=by
  rw [h5',h9];rcases Nat.mod_two_eq_zero_or_one i with h |h<;>rw [h]<;>rfl
 grind
theorem MO {k g:Nat} {args:List TV} {args':List Value} {K:TV->GH->Option Z} (hs:au P hint sh Γ Pu H I) (h:yy dS sh k g args H K=some (some r)) (ha:br Γ Pu I args args'):
  ∃ t v,jF k g args' I=some v/\K t H=some r/\GR Γ Pu I t v:=by
 unfold yy at h;split at h
 .cases ha;exact ⟨_,_,rfl,by simpa using h,.bool true⟩
 .rename_i n
  simp only [Option.some.injEq] at h;replace h:=ad h;obtain ⟨hb,h⟩:=h;simp only [zae] at hb;have h:=aE h;cases ha with |cons a b=>
  cases a;cases b;refine ⟨_,_,?_,h.2,.str _⟩;have hg:g<bI:=Nat.le_of_ble_eq_true hb.1;have:jF 1 g [.int .i64 n] I=some (.string (ba (Lib.itoa n))):=by
   unfold jF;exact if_pos ⟨h.1,hg,R9 hs hg hb.2⟩
  exact this
 .rename_i s cs
  replace h:=ad h;obtain ⟨hb,h⟩:=h;simp only [Option.some.injEq] at h;cases ha with |cons a b=>
  cases a;cases b with |cons a b=>
  cases a;cases b;refine ⟨_,_,?_,h,.str _⟩;have:jF 2 g [.string (ba s),.string (ba cs)] I=bif oq cs then some (.string (ba (Lib.trimLeftS s cs))) else none:=rfl
  grind
 .rename_i s
  simp only [Option.some.injEq] at h;replace h:=ad h;obtain ⟨hb,h⟩:=h;simp only [zae] at hb;have h:=aE h;cases ha with |cons a b=>
  cases a;cases b;refine ⟨_,_,?_,h.2,.bool _⟩;have hg1:g / 1000<bI:=Nat.le_of_ble_eq_true hb.1;have hg2:g%1000<bI:=Nat.le_of_ble_eq_true hb.2.1;have hU:=hb.2.2;unfold TQ at hU;rw [zae] at hU;obtain ⟨hU1,hU2⟩:=hU;have t1:Ai I (g / 1000) (rz.map rX):=by
   split at hU1
   .rename_i xs hT
    have hx:xs=rz:=by simpa using hU1
    subst hx;exact Ma hs hg1 hT
   .cases hU1
  have t2:Ai I (g%1000) (Ju.flatMap fun p=> [rX p.1,rX p.2]):=by
   split at hU2
   .rename_i xs hT
    have hx:xs=Ju:=by simpa using hU2
    subst hx;exact Sv hs hg2 hT
   .cases hU2
  have:jF 3 g [.string (ba s)] I=some (.bool (Lib.validD s)):=by
   unfold jF;exact if_pos ⟨h.1,⟨hg1,hg2⟩,t1,t2⟩
  exact this
 .cases h
theorem L5 {k g:Nat} {args:List TV} {args':List Value} {K:TV->GH->Option Z} (h:yy dS sh k g args H K=none) (ha:br Γ Pu I args args'):jF k g args' I=none:=by
 unfold yy at h;split at h
 .cases h
 .cases h
 .rename_i s cs
  cases hb:oq cs with
  |true=>grind
  |false=>
   cases ha with |cons a b=>
   cases a;cases b with |cons a b=>
   cases a;cases b;have:jF 2 g [.string (ba s),.string (ba cs)] I=bif oq cs then some (.string (ba (Lib.trimLeftS s cs))) else none:=rfl
   grind
 .cases h
 .cases h
theorem Ld {hk:rW Z}:∀ n,(∀ m,m<=n->rC P hint sh hk m)->ej P hint sh (gv stx P sh hint hk n) (ev P hint (cj hint) n):=by
 intro n
 induction n with
 |zero=>
  intro ho;refine ⟨(fun h=>by cases h),(fun h=>by cases h),?_⟩;intro bx fi ro ro' c d E E' H K r Γ Pu I n0 D h hs he hf hr hd hn;simp only [gv] at h;cases hst:Nh (hint BO) bx (dA c) with
  |true=>grind
  |false=>
  rw [hst] at h;simp only [zab] at h;split at h
  .rename_i g hg
   split at h
   .rename_i q hq
    subst h;exact .inr ((ho 0 (zal _)).loop hg hq hs he hf hr hd hn)
   .exact .inl h
  grind
 |succ n ih=>
  intro ho;have hi:=ih fun m hm=>ho m (Nat.le_succ_of_le hm)
  refine ⟨?_,?_,?_⟩
  .intro f args H K r Γ Pu I args' h hs ha
   simp only [gv] at h
   show gb P hint sh K r Γ Pu H I (dQ P hint (cj hint) (ev P hint (cj hint) n) f args' I)
   cases hal:nj (hint jc) f with
   |some kg=>
    obtain ⟨k,g⟩:=kg;rw [hal] at h;simp only at h;cases hsp:yy stx.cm sh k g args H K with
    |some q=>
     rw [hsp] at h;simp only at h;subst h;obtain ⟨t,v,hv,hK,hr⟩:=MO hs hsp ha;have e:dQ P hint (cj hint) (ev P hint (cj hint) n) f args' I=some (.returned v,I):=by
      simp only [dQ,cj,hal,G9,hv,Option.map_some]
     rw [e];exact .inl ⟨_,_,_,_,_,_,hK,rfl,hr,hs,Ex.refl hs⟩
    |none=>
     rw [hsp] at h;simp only at h;have hv:=L5 hsp ha;have e:dQ P hint (cj hint) (ev P hint (cj hint) n) f args' I=cX P hint (ev P hint (cj hint) n) f args' I:=by
      simp only [dQ,cj,hal,G9,hv,Option.map_none]
     rw [e];split at h
     .rename_i g hg
      exact (ho n (Nat.le_succ n)).call hg h hs ha
     .exact pT hi hs h ha
   |none=>
   have e:dQ P hint (cj hint) (ev P hint (cj hint) n) f args' I=cX P hint (ev P hint (cj hint) n) f args' I:=by
    simp only [dQ,cj,hal]
   rw [e];rw [hal] at h;simp only at h;cases hst:AF (hint MN) f with
   |true=>grind
   |false=>
   rw [hst] at h;simp only [zab] at h;split at h
   .rename_i g hg
    exact (ho n (Nat.le_succ n)).call hg h hs ha
   .exact pT hi hs h ha
  .intro bx fi ro ro' c E E' H K r Γ Pu I n0 D h hs he hf hr hd hn
   exact MW hi h hs he hf hr hd hn
  .intro bx fi ro ro' c d E E' H K r Γ Pu I n0 D h hs he hf hr hd hn
   simp only [gv] at h;cases hst:Nh (hint BO) bx (dA c) with
   |true=>grind
   |false=>
   rw [hst] at h;simp only [zab] at h;split at h
   .rename_i g hg
    split at h
    .rename_i q hq
     subst h;exact .inr ((ho (n+1) (zal _)).loop hg hq hs he hf hr hd hn)
    .exact .inl h
   grind
end
end Go.Gv
