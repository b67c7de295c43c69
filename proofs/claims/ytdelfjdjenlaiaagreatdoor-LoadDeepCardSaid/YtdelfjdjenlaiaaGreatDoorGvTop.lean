/- The pure evaluator's code, calls, levels are the ideal one's. -/
import Derived.Test.YtdelfjdjenlaiaaGreatDoorGvJoin
set_option linter.unusedSimpArgs false
set_option linter.unusedVariables false
namespace Go.Gv
open Go Go.Iv
section
variable {β:Type} {P:Program} {hint:Hint} {O:Nat->Prop} {Γ Γ1:bc} {Pu Pu1:Nat->Prop} {H H1:GH} {I I1 I2:IH} {r:β} {sf:eF β} {self:Self} {sh:cA}
theorem aw.P5 (hs:aw P hint sh Γ Pu H I) (io:bA):aw P hint sh Γ Pu H (I.new io)/\Ex (bx Γ H I) Γ Pu H I Γ Pu H (I.new io):=by
 have getold:∀ b,b<I.n->(I.new io).get b=I.get b:=fun b hb=>by rw [IH.az,if_neg (Nat.ne_of_lt hb)]
 have hk:cH Γ Pu I Γ Pu (I.new io):=⟨fun _ _ h=>h,fun _ h=>h,fun b hb=>getold b (hs.jh hb)⟩;have hpos:∀ id o l b x,H.get id=some o->o.dh=true->Γ id=some l->l.pos=some (b,x)->(I.new io).get b=I.get b:=fun id o l b x hg hm hl hp=>getold b (hs.cq (.pos hg hm hl hp))
 refine ⟨⟨?_,hs.NX hpos,fun b h=>hs.sep b (pF hpos h),hs.bj,?_,?_,Nat.le_succ_of_le hs.ro,hs.gn,hs.cE,hs.st,hs.oE hk.p hk.i⟩,⟨fun _ _ h=>h,zai _,Nat.le_succ _,fun _ h=>h,fun b hb _=>getold b hb,fun b _ h=>pF hpos h,fun _ _ h=> .inl h,zai _,fun _ _=> .inr (.inl rfl),?_⟩⟩
 ·intro id o hg
  obtain ⟨l,hl,_⟩:=hs.obj id o hg;exact ⟨l,hl,hs.dR hk hg hl fun hm b hat=>getold b (hs.cq ⟨id,o,l,hg,hm,hl,hat⟩)⟩
 ·intro b hb
  have hb':I.n+1<=b:=hb;rw [IH.az,if_neg (by omega)];exact hs.fresh b (by omega)
 ·intro b hb
  obtain ⟨cs,et,fz,ex,sd,hg⟩:=hs.pu b hb;exact ⟨cs,et,fz,ex,sd,(getold b (hs.lt hg)).trans hg⟩
 ·intro id l b x s h1 _ hl hp
  exact hs.eC hk h1 hl hp fun o hg hm=>hpos id o l b x hg hm hl hp
theorem aw.S1 (hs:aw P hint sh Γ Pu H I) {b:Nat} {o o':Bool} (hb:I.get b=some (.mf o)) (id:Nat) (ob:bL) (l:Loc) (b2 x:Nat) (hg:H.get id=some ob) (_:ob.dh=true) (hl:Γ id=some l) (hp:l.pos=some (b2,x)):(I.put b (.mf o')).get b2=I.get b2:=by
 have hno:=hs.CH hb;have hnp:¬ Pu b:=fun h=>by obtain ⟨cs,et,fz,ex,sd,hg⟩:=hs.pu b h;rw [hb] at hg;cases hg
 rw [IH.ah,if_neg (by rintro rfl;exact hs.pb hno hnp hg hl hp)]
theorem aw.mark (hs:aw P hint sh Γ Pu H I) {b:Nat} {o o':Bool} (hb:I.get b=some (.mf o)):aw P hint sh Γ Pu H (I.put b (.mf o')):=by
 have hno:=hs.CH hb;have hnp:¬ Pu b:=fun h=>by obtain ⟨cs,et,fz,ex,sd,hg⟩:=hs.pu b h;rw [hb] at hg;cases hg
 have hk:cH Γ Pu I Γ Pu (I.put b (.mf o')):=⟨fun _ _ h=>h,fun _ h=>h,fun b' hb'=>by rw [IH.ah,if_neg (by rintro rfl;exact hnp hb')]⟩;have hpos:∀ id o l b2 x,H.get id=some o->o.dh=true->Γ id=some l->l.pos=some (b2,x)->(I.put b (.mf o')).get b2=I.get b2:=fun id o l b2 x hg hm hl hp=>by rw [IH.ah,if_neg (by rintro rfl;exact hs.pb hno hnp hg hl hp)]
 refine ⟨?_,hs.NX hpos,fun b h=>hs.sep b (pF hpos h),hs.bj,?_,?_,hs.ro,hs.gn,hs.cE,hs.st,hs.oE hk.p hk.i⟩
 ·intro id ob hg
  obtain ⟨l,hl,ho⟩:=hs.obj id ob hg;exact ⟨l,hl,ho.mono hk fun b' hat=>by rw [IH.ah,if_neg (by rintro rfl;exact hs.iw hno hnp hg hl hat)]⟩
 ·intro b' hb'
  rw [IH.ah,if_neg (by rintro rfl;rw [hs.fresh b' hb'] at hb;cases hb)];exact hs.fresh b' hb'
 ·intro b' hb'
  obtain ⟨cs,et,fz,ex,sd,hg⟩:=hs.pu b' hb';exact ⟨cs,et,fz,ex,sd,(hk.i b' hb').trans hg⟩
theorem Ex.mark (hs:aw P hint sh Γ Pu H I) (h:Ex O Γ Pu H I Γ1 Pu1 H1 I1) {b:Nat} {o:Bool} (hb:I.n<=b) (hpos:∀ id o' l b2 x,H1.get id=some o'->o'.dh=true->Γ1 id=some l->l.pos=some (b2,x)->(I1.put b (.mf o)).get b2=I1.get b2):Ex O Γ Pu H I Γ1 Pu1 H1 (I1.put b (.mf o)):=
 ⟨h.g,h.hn,h.n,h.p,fun b' hb' ho=>by rw [IH.ah,if_neg (by omega)];exact h.cI b' hb' ho,(fun b' hb' ho=>h.own b' hb' (pF hpos ho)),h.pn,h.ck,h.yW,fun id l b' x s h1 h2 hl hp=>by
  obtain ⟨ob,hg⟩:=GH.iv h1;have:b'<I.n:=by
   obtain ⟨l',hl',ho⟩:=hs.obj id ob hg;cases hl.symm.trans hl';obtain ⟨io,hio⟩:=ho.Db (.inl ⟨x,hp⟩);exact hs.lt hio
  rw [IH.ah,if_neg (by omega)];exact h.jv id l b' x s h1 h2 hl hp⟩
def ZA (I:IH):Option Nat->Nat
 |none=>I.n+1
 |some _=>I.n
def ZK (I:IH) (D:List Deferred):Option Nat->List Deferred
 |none=>{ target:= .collected I.n,args:=#[] }::D
 |some _=>D
noncomputable def ZL (I:IH):Option Nat->IH
 |none=>I.new (.mf true)
 |some _=>I
theorem WA:∀ {a b:List Nat},a.map (fun r=>({ target:= .collected r,args:=#[] }:Deferred))=b.map (fun r=>({ target:= .collected r,args:=#[] }:Deferred))->a=b:=by
 intro a
 induction a with
 |nil=>intro b h;cases b with
  |nil=>rfl
  |cons=>cases h
 |cons x a ih=>
  intro b h;cases b with
  |nil=>cases h
  |cons y b=>
   simp only [List.map_cons,List.cons.injEq] at h;obtain ⟨h1,h2⟩:=h;have:x=y:=by injection h1 with h1;injection h1
   rw [this,ih h2]
theorem dQ.ret (hs:aw P hint sh Γ Pu H I) {K:X->GE->GH->Option β} {x:X} {E:GE} {E':En} {n0:DB} {ro:Option Nat} {D:List Deferred} (h:K x E H=some r) (he:ER Γ Pu I E E') (hd:Ab n0 I D):dQ P hint sh K r Γ Pu H I n0 ro D (some (x,E',I,D)):=
 ⟨x,E,H,Γ,Pu,E',I,D,h,rfl,he,hs,Ex.refl hs,hd,fun _=>rfl⟩
theorem Fo {fi:FI} {c:Operand} {b:Bool} {E:GE} {E':En} (he:ER Γ Pu I E E') (hb:dC fi E' c= .bool b):ER Γ Pu I (AF fi c b E) E':=by
 unfold AF;split
 ·rename_i k
  refine he.Fa k fi ?_;have:fw fi E' k= .bool b:=hb;rw [this];exact .bool _
 ·exact he
theorem QT (ok:dv P hint sh sf self) {bO:Nat} {fi:FI} {ro ro':Option Nat} {id:Nat} {ops:Array Oper} {dr:Bool} {E:GE} {E':En} {D:List Deferred} {K:X->GE->GH->Option β}
  (h:gC stx P sh sf bO fi ro (.region id ops dr) E H K=some r) (hs:aw P hint sh Γ Pu H I) (he:ER Γ Pu I E E'):
  ∃ x E1 H1 Γ1 Pu1 E1' I1,K x E1 H1=some r/\aA P self fi ro' (.region id ops dr) E' I D=some (x,E1',I1,D)/\ER Γ1 Pu1 I1 E1 E1'/\aw P hint sh Γ1 Pu1 H1 I1/\Ex (bx Γ H I) Γ Pu H I Γ1 Pu1 H1 I1:=by
 cases dr with
 |false=>
  simp only [gC] at h;replace h:=dw h;split at h
  ·rename_i d hj
   obtain ⟨j1,j2⟩:=Jr hj;simp only [stx] at h;cases hb:od dW P sh CP fi ops ops.toList E.reset H (fun E _=>vG (fx fi E d)) (fun _ _ _=>none) with
   |none=>rw [hb] at h;cases h
   |some b=>
    rw [hb] at h;simp only [zaa] at h
    have hcong:=HM (P:=P) (sh:=sh) (sf:=CP) (KP:=fun _ _ _=>none) (H:=H) (fi:=fi) (ops:=ops) (E0:=E.reset) (d:=d) (fun o ho=>(j1 o ho).2)
     (K1:=fun E _=>vG (fx fi E d)) (K2:=fun E1 H1=>@ite _ (H1=H/\∀ t,(cls fi d= .loc->t≠d)->eX E1.loc t=eX E.loc t) (Classical.propDecidable _) (vG (fx fi E1 d)) none)
     (fun E1 h1=>by rw [if_pos ⟨rfl,h1⟩]) ops.toList E.reset j1 (fun _ _=>rfl)
    rw [hcong] at hb;rcases KS (ro:=ro') (D:=D) (MY (self:=self)) hb hs he.reset with ⟨E1,H1,Γ1,Pu1,E1',I1,k1,k2,k3,k4,k5⟩ |⟨_,_,_,_,_,_,_,k1,_⟩
    case inr=>cases k1
    dsimp only at k1;by_cases hq:H1=H/\∀ t,(cls fi d= .loc->t≠d)->eX E1.loc t=eX E.loc t
    ·rw [if_pos hq] at k1
     obtain ⟨rfl,hloc⟩:=hq;have hv:fx fi E1 d= .bool b:=by
      unfold vG at k1;split at k1
      ·rename_i hh;cases k1;exact hh
      ·cases k1
     refine ⟨.normal,dc fi d (.bool b) E.reset,H1,Γ1,Pu1,E1',I1,h,k2,?_,k4,k5⟩;rcases j2 with j2 |j2
     ·have hE:dc fi d (.bool b) E.reset=⟨nk E.loc d (.bool b),.e⟩:=by unfold dc;rw [j2];rfl
      have hv:eX E1.loc d= .bool b:=by unfold fx at hv;rw [j2] at hv;exact hv
      rw [hE];intro t;refine ⟨?_,.undef _⟩
      show GR Γ1 Pu1 I1 (eX (nk E.loc d (.bool b)) t) (lk E1'.loc t)
      rw [fP];split
      ·rename_i ht;subst ht;rw [←hv];exact (k3 t).1
      ·rename_i ht;rw [←hloc t fun _=>ht];exact (k3 t).1
     ·have hE:dc fi d (.bool b) E.reset=⟨E.loc,.c d (.bool b) .e⟩:=by unfold dc;rw [j2];rfl
      have hv:eX E1.tmp d= .bool b:=by unfold fx at hv;rw [j2] at hv;exact hv
      rw [hE];intro t;have hld:∀ t,eX E1.loc t=eX E.loc t:=fun t=>hloc t fun hh=>by rw [j2] at hh;cases hh
      refine ⟨by rw [←hld t];exact (k3 t).1,?_⟩
      show GR Γ1 Pu1 I1 (eX (.c d (.bool b) .e) t) (lk E1'.tmp t)
      simp only [eX];cases hbq:Nat.beq d t with
      |true=>rw [←Nat.eq_of_beq_eq_true hbq,←hv];exact (k3 d).2
      |false=>exact .undef _
    ·rw [if_neg hq] at k1;cases k1
  ·rcases Pa (ro:=ro') (D:=D) ok _ (zai _) h hs he.reset with ⟨E1,H1,Γ1,Pu1,E1',I1,k1,k2,k3,k4,k5⟩ |⟨E1,w,H1,Γ1,Pu1,E1',I1,k1,k2,k3,k4,k5⟩
   ·exact ⟨.normal,E1,H1,Γ1,Pu1,E1',I1,k1,k2,k3,k4,k5⟩
   ·exact ⟨.panic w,E1,H1,Γ1,Pu1,E1',I1,k1,k2,k3,k4,k5⟩
 |true=>
  simp only [gC] at h;replace h:=dw h;rcases OC (D:=D) ok h hs he.reset with ⟨E1,H1,Γ1,Pu1,E1',I1,k1,k2,k3,k4,k5⟩ |⟨E1,w,H1,Γ1,Pu1,E1',I1,k1,k2,k3,k4,k5⟩
  ·exact ⟨.normal,E1,H1,Γ1,Pu1,E1',I1,k1,k2,k3,k4,k5⟩
  ·exact ⟨.panic w,E1,H1,Γ1,Pu1,E1',I1,k1,k2,k3,k4,k5⟩
theorem Kn (ok:dv P hint sh sf self) {bO:Nat} {fi:FI} {ro ro':Option Nat}:∀ {c:Code} {E:GE} {E':En} {H:GH} {I:IH} {Γ:bc} {Pu:Nat->Prop} {n0:DB} {D:List Deferred} {K:X->GE->GH->Option β},
  gC stx P sh sf bO fi ro c E H K=some r->aw P hint sh Γ Pu H I->ER Γ Pu I E E'->Oj P hint bO fi c->Oo Γ ro ro'->Ab n0 I D->n0.n<=I.n->dQ P hint sh K r Γ Pu H I n0 ro D (aA P self fi ro' c E' I D):=by
 intro c
 induction c with
 |skip=>intro E E' H I Γ Pu n0 D K h hs he hf hr hd hn;exact dQ.ret hs h he hd
 |label l=>intro E E' H I Γ Pu n0 D K h hs he hf hr hd hn;exact dQ.ret hs h he hd
 |exit id=>intro E E' H I Γ Pu n0 D K h hs he hf hr hd hn;exact dQ.ret hs h he hd
 |ret=>intro E E' H I Γ Pu n0 D K h hs he hf hr hd hn;exact dQ.ret hs h he hd
 |goto l=>intro E E' H I Γ Pu n0 D K h hs he hf hr hd hn;cases h
 |refuse w=>intro E E' H I Γ Pu n0 D K h hs he hf hr hd hn;cases h
 |region id ops dr=>
  intro E E' H I Γ Pu n0 D K h hs he hf hr hd hn;obtain ⟨x,E1,H1,Γ1,Pu1,E1',I1,k1,k2,k3,k4,k5⟩:=QT (ro':=ro') (D:=D) ok h hs he;exact ⟨x,E1,H1,Γ1,Pu1,E1',I1,D,k1,k2,k3,k4,k5,hd.ex hs k5,fun _=>rfl⟩
 |seq a b iha ihb=>
  intro E E' H I Γ Pu n0 D K h hs he hf hr hd hn;obtain ⟨x,E1,H1,Γ1,Pu1,E1',I1,D1,k1,k2,k3,k4,k5,k6,k7⟩:=iha h hs he (hf.sub (.OD (.refl _))) hr hd hn;cases x with
  |normal=>
   obtain ⟨x,E2,H2,Γ2,Pu2,E2',I2,D2,j1,j2,j3,j4,j5,j6,j7⟩:=ihb k1 k4 k3 (hf.sub (.Ia (.refl _))) (hr.mono k5.g) k6 (Nat.le_trans hn k5.n);exact ⟨x,E2,H2,Γ2,Pu2,E2',I2,D2,j1,by simp only [aA,k2,j2],j3,j4,Ex.trans hs k4 k5 j5,j6,fun h=>(j7 h).trans (k7 h)⟩
  |exit id=>exact ⟨_,E1,H1,Γ1,Pu1,E1',I1,D1,k1,by simp only [aA,k2],k3,k4,k5,k6,k7⟩
  |ret=>exact ⟨_,E1,H1,Γ1,Pu1,E1',I1,D1,k1,by simp only [aA,k2],k3,k4,k5,k6,k7⟩
  |panic v=>exact ⟨_,E1,H1,Γ1,Pu1,E1',I1,D1,k1,by simp only [aA,k2],k3,k4,k5,k6,k7⟩
 |cond c a b iha ihb=>
  intro E E' H I Γ Pu n0 D K h hs he hf hr hd hn;have hc:=bY (fi:=fi) hs he c;simp only [gC] at h;split at h
  ·rename_i t ht
   rw [ht] at hc;unfold dQ;simp only [aA];have Fa:∀ b,dC fi E' c= .bool b->ER Γ Pu I (AF fi c b E) E':=fun b hb=>Fo he hb
   generalize hcv:dC fi E' c=cv at hc;cases hc;rcases iL h with ⟨rfl,h⟩ |⟨rfl,h⟩
   ·exact iha (dw h) hs (Fa _ hcv) (hf.sub (.Fj (.refl _))) hr hd hn
   ·exact ihb (dw h) hs (Fa _ hcv) (hf.sub (.GP (.refl _))) hr hd hn
  ·cases h
 |block id c ih=>
  intro E E' H I Γ Pu n0 D K h hs he hf hr hd hn;obtain ⟨x,E1,H1,Γ1,Pu1,E1',I1,D1,k1,k2,k3,k4,k5,k6,k7⟩:=ih h hs he (hf.sub (.block (.refl _))) hr hd hn;cases x with
  |normal=>exact ⟨_,E1,H1,Γ1,Pu1,E1',I1,D1,k1,by simp only [aA,k2],k3,k4,k5,k6,k7⟩
  |ret=>exact ⟨_,E1,H1,Γ1,Pu1,E1',I1,D1,k1,by simp only [aA,k2],k3,k4,k5,k6,k7⟩
  |panic v=>exact ⟨_,E1,H1,Γ1,Pu1,E1',I1,D1,k1,by simp only [aA,k2],k3,k4,k5,k6,k7⟩
  |exit j=>
   simp only at k1;by_cases hj:j=id
   ·subst hj
    rw [Nat.beq_refl] at k1;exact ⟨_,E1,H1,Γ1,Pu1,E1',I1,D1,k1,by simp only [aA,k2,if_true],k3,k4,k5,k6,k7⟩
   ·rw [fY hj] at k1
    exact ⟨_,E1,H1,Γ1,Pu1,E1',I1,D1,k1,by simp only [aA,k2,if_neg hj],k3,k4,k5,k6,k7⟩
 |scope c ih=>
  intro E E' H I Γ Pu n0 D K h hs he hf hr hd hn;exact ih h hs he (hf.sub (.scope (.refl _))) hr hd hn
 |loop c ih=>
  intro E E' H I Γ Pu n0 D K h hs he hf hr hd hn;rcases ok.loop h hs he hf hr hd hn with h |h
  ·obtain ⟨x,E1,H1,Γ1,Pu1,E1',I1,D1,k1,k2,k3,k4,k5,k6,k7⟩:=ih h hs he (hf.sub (.loop (.refl _))) hr hd hn
   cases x with
   |normal=>
    obtain ⟨x,E2,H2,Γ2,Pu2,E2',I2,D2,j1,j2,j3,j4,j5,j6,j7⟩:=ok.code k1 k4 k3 hf (hr.mono k5.g) k6 (Nat.le_trans hn k5.n);exact ⟨x,E2,H2,Γ2,Pu2,E2',I2,D2,j1,by simp only [aA,k2,j2],j3,j4,Ex.trans hs k4 k5 j5,j6,fun h=>(j7 h).trans (k7 h)⟩
   |exit id=>exact ⟨_,E1,H1,Γ1,Pu1,E1',I1,D1,k1,by simp only [aA,k2],k3,k4,k5,k6,k7⟩
   |ret=>exact ⟨_,E1,H1,Γ1,Pu1,E1',I1,D1,k1,by simp only [aA,k2],k3,k4,k5,k6,k7⟩
   |panic v=>exact ⟨_,E1,H1,Γ1,Pu1,E1',I1,D1,k1,by simp only [aA,k2],k3,k4,k5,k6,k7⟩
  ·exact h
 |rangeFunc f ps dZ body iha ihb=>
  intro E E' H I Γ Pu n0 D K h hs he hf hr hd hn;have hfo:=bY (fi:=fi) hs he f;simp only [gC] at h;replace h:=ae h;obtain ⟨hlo,h⟩:=h;split at h
  ·rename_i g first captured hfe
   rw [hfe] at hfo
   have pre:∃ I0 D0 lv,aw P hint sh Γ Pu H I0/\Ex (bx Γ H I) Γ Pu H I Γ Pu H I0/\Ab n0 I0 D0/\lv=I0.n/\(ro.isSome=true->D0=D)/\
     (rl I ro'=true)/\ZA I ro'=lv/\ZK I D ro'=D0/\ZL I ro'=I0:=by
    rcases hr with ⟨rfl,rfl⟩ |⟨l,b,loc,rfl,rfl,hl,hp⟩
    ·obtain ⟨s0,e0⟩:=hs.P5 (.mf true)
     refine ⟨I.new (.mf true),_,_,s0,e0,?_,rfl,(fun h=>by cases h),rfl,rfl,rfl,rfl⟩;obtain ⟨ds,d1,d2,d3⟩:=hd.ex hs e0;obtain ⟨ds',d1',d2',d3'⟩:=hd;have hds:ds=ds':=WA (List.append_cancel_right (d2.symm.trans d2'));subst hds;refine ⟨I.n::ds,List.nodup_cons.2 ⟨fun hm=>?_,d1⟩,by rw [d2];rfl,fun r hr=>?_⟩
     ·have:=(d3' _ hm).2.2
      rw [hs.fresh _ (zai _)] at this;cases this
     ·rcases List.mem_cons.1 hr with rfl |hr
      ·exact ⟨hs.ro,hn,by rw [IH.az,if_pos rfl]⟩
      ·exact d3 r hr
    ·refine ⟨I,D,_,hs,Ex.refl hs,hd,rfl,fun _=>rfl,?_,rfl,rfl,rfl⟩
     simp only at hlo;split at hlo
     ·rename_i hg
      obtain ⟨l',hl',ho⟩:=hs.obj _ _ hg;cases hl.symm.trans hl';obtain ⟨b',F',hp',_,hgb,_⟩:=ho;cases hp.symm.trans hp';simp only [rl,hgb]
     ·cases hlo
   obtain ⟨I0,D0,lv,s0,e0,d0,hlv,hDro,hla,q1,q2,q3⟩:=pre;have he0:=he.mono (e0.cJ hs)
   obtain ⟨s1,e1⟩:=s0.new (.loop bO .ready none fi E ps.toList dZ body) (.loop .ready none fi E' ps.toList dZ body) ⟨some (I0.n,0),0,0,0⟩ 0 rfl
    ⟨I0.n,E',rfl,s0.ro,by rw [IH.az,if_pos rfl],he0.mono (jW s0 _ _),f,ps,hf,rfl⟩
   have hup:(Γ.up H.n ⟨some (I0.n,0),0,0,0⟩) H.n=some ⟨some (I0.n,0),0,0,0⟩:=by simp [bc.up]
   have e01:=Ex.trans hs s0 e0 e1;generalize hov:dC fi E' f=fv at hfo;cases hfo with |fn ra rc=>
   rename_i first' captured';have hargs:=((ra.mono (e01.cJ hs)).append (bK.cons (GR.mX hup rfl) .nil)).append (rc.mono (e01.cJ hs));rcases ok.call h s1 hargs with ⟨t,H2,Γ2,Pu2,v,I2,k1,k2,k3,k4,k5⟩ |⟨w,H2,Γ2,Pu2,I2,k1,k2,k4,k5⟩
   case inr=>
    have k1:K (.panic w) E H2=some r:=k1;have k2':self.call g (first'++ [Value.func (.yield I0.n) #[] #[]]++captured') (I0.new (.loop .ready none fi E' ps.toList dZ body))=some (.panicked w,I2):=k2;have eall:=Ex.trans hs s1 e01 k5;refine ⟨.panic w,E,H2,Γ2,Pu2,E',I2,D0,k1,?_,he.mono (eall.cJ hs),k4,eall,d0.ex s0 (Ex.trans s0 s1 e1 k5),hDro⟩;rcases hr with ⟨rfl,rfl⟩ |⟨l,b,loc,rfl,rfl,hl,hp⟩
    ·have q1':I.n+1=I0.n:=q1.trans hlv
     have q2':({ target:= .collected I.n,args:=#[] }:Deferred)::D=D0:=q2;have q3':I.new (.mf true)=I0:=q3;simp only [aA,hla,Bool.not_true,Bool.false_eq_true,if_false,hov,q1',q2',q3',k2']
    ·have q1':I.n=I0.n:=q1.trans hlv
     have q2':D=D0:=q2;have q3':I=I0:=q3;have hla':rl I0 (some b)=true:=q3'▸hla;simp only [aA,hla',Bool.not_true,Bool.false_eq_true,if_false,hov,q2',q3',k2']
   simp only [wU k3] at k1;split at k1
   ·rename_i fid2 st pd fi2 E2 ps2 asg2 body2 hg2
    cases hbz:(st==LoopState.busy) with
    |true=>rw [hbz] at k1;cases k1
    |false=>
     rw [hbz] at k1;simp only [zab] at k1;obtain ⟨l2,hl2,ho2⟩:=k4.obj _ _ hg2;cases (k5.g _ _ hup).symm.trans hl2;obtain ⟨b2,E2',hp2,hro2,hgb2,hE2,hi5⟩:=ho2;cases hp2
     have hke:cH Γ2 Pu2 I2 Γ2 Pu2 (I2.put I0.n (.loop .exhausted pd fi2 E2' ps2 asg2 body2)):=
      ⟨fun _ _ h=>h,fun _ h=>h,fun b' hb'=>by rw [IH.ah,if_neg (by rintro rfl;exact k4.sep _ (.pos hg2 rfl hl2 rfl) hb')]⟩
     obtain ⟨s3,e3⟩:=k4.hX hg2 rfl hl2 rfl (.loop fid2 .exhausted pd fi2 E2 ps2 asg2 body2) (.loop .exhausted pd fi2 E2' ps2 asg2 body2)
      ⟨I0.n,E2',rfl,hro2,by rw [IH.ah,if_pos rfl],hE2.mono hke,hi5⟩
     have eall:=Ex.trans hs s1 e01 (Ex.trans s1 k4 k5 e3);have dall:Ab n0 (I2.put I0.n (.loop .exhausted pd fi2 E2' ps2 asg2 body2)) D0:=d0.ex s0 (Ex.trans s0 s1 e1 (Ex.trans s1 k4 k5 e3));have heall:=he.mono (eall.cJ hs);have hev:∀ x,(match pd with |none=>some (X.normal,E',I2.put I0.n (.loop .exhausted pd fi2 E2' ps2 asg2 body2),D0) |some .ret=>some (.ret,E',I2.put I0.n (.loop .exhausted pd fi2 E2' ps2 asg2 body2),D0) |some (.exit id)=>some (.exit id,E',I2.put I0.n (.loop .exhausted pd fi2 E2' ps2 asg2 body2),D0) |_=>none)=some x->aA P self fi ro' (.rangeFunc f ps dZ body) E' I D=some x:=by
      intro x hx;have k2':self.call g (first'++ [Value.func (.yield I0.n) #[] #[]]++captured') (I0.new (.loop .ready none fi E' ps.toList dZ body))=some (.returned v,I2):=k2;rcases hr with ⟨rfl,rfl⟩ |⟨l,b,loc,rfl,rfl,hl,hp⟩
      ·have q1':I.n+1=I0.n:=q1.trans hlv
       have q2':({ target:= .collected I.n,args:=#[] }:Deferred)::D=D0:=q2;have q3':I.new (.mf true)=I0:=q3;simp only [aA,hla,Bool.not_true,Bool.false_eq_true,if_false,hov,q1',q2',q3',k2',hgb2,hbz];exact hx
      ·have q1':I.n=I0.n:=q1.trans hlv
       have q2':D=D0:=q2;have q3':I=I0:=q3;have hla':rl I0 (some b)=true:=q3'▸hla;simp only [aA,hla',Bool.not_true,Bool.false_eq_true,if_false,hov,q2',q3',k2',hgb2,hbz];exact hx
     split at k1
     ·exact ⟨_,E,_,_,_,E',_,D0,k1,hev _ rfl,heall,s3,eall,dall,hDro⟩
     ·exact ⟨_,E,_,_,_,E',_,D0,k1,hev _ rfl,heall,s3,eall,dall,hDro⟩
     ·exact ⟨_,E,_,_,_,E',_,D0,k1,hev _ rfl,heall,s3,eall,dall,hDro⟩
     ·cases k1
   ·cases k1
  ·cases h
theorem SL (hs:aw P hint sh Γ Pu H I) {fi:FI} {E:GE} {E':En} (he:ER Γ Pu I E E') {rv:ResultVar} {t:TV} (h:S5 P fi E H rv=some t):∃ v,gq P fi E' I rv=some v/\GR Γ Pu I t v:=by
 cases rv with
 |tmp d=>
  unfold S5 at h;cases h;exact ⟨_,rfl,bY (fi:=fi) hs he (.tmp d)⟩
 |cell a ty=>
  unfold S5 at h;have hv:=bY (fi:=fi) hs he (.tmp a);simp only at h;split at h
  ·rename_i id off ha
   have hv':GR Γ Pu I (fx fi E a) (fw fi E' a):=hv;rw [ha] at hv';generalize hov:fw fi E' a=av at hv';cases hv' with |ptr hl hp=>
   split at h
   ·rename_i et cs w hg
    replace h:=ae h;obtain ⟨hb,h⟩:=h;obtain ⟨l',hl',ho⟩:=hs.obj id _ hg;cases hl.symm.trans hl';obtain ⟨b',vs,fz,ex,sd,hp',hgb,hr,_,_⟩:=ho;cases hp.symm.trans hp';obtain ⟨q1,q2⟩:=hr.whole off (aB hb);obtain ⟨v,hv,hrv⟩:=kc (P:=P) (t:=ty) hgb q1 q2 h;exact ⟨v,by simp only [gq,hov];exact hv,hrv⟩
   ·cases h
  ·cases h
theorem OU (hs:aw P hint sh Γ Pu H I) {fi:FI} {E:GE} {E':En} (he:ER Γ Pu I E E'):∀ {rs:List ResultVar} {ts:List TV},Bo P fi E H rs=some ts->∃ vs,rs.mapM (gq P fi E' I)=some vs/\bK Γ Pu I ts vs:=by
 intro rs
 induction rs with
 |nil=>intro ts h;unfold Bo at h;cases h;exact ⟨[],rfl,.nil⟩
 |cons rv rs ih=>
  intro ts h;unfold Bo at h;split at h
  ·rename_i t ts' h1 h2
   cases h;obtain ⟨v,e1,r1⟩:=SL hs he h1;obtain ⟨vs,e2,r2⟩:=ih h2;exact ⟨v::vs,by simp [List.mapM_cons,e1,e2],.cons r1 r2⟩
  ·cases h
theorem Hw {fi:FI} {fn:Func} {T:En} {n0:Nat} {D0:List Deferred} {u:Iv.Mode}:∀ {ds:List Nat} {I:IH} {Γ0:bc} {Pu0:Nat->Prop} {H0:GH} {I0:IH},ds.Nodup->(∀ r∈ds,dO<=r/\n0<=r/\I.get r=some (.mf true))->aw P hint sh Γ Pu H I->aw P hint sh Γ0 Pu0 H0 I0->I0.n<=n0->Ex O Γ0 Pu0 H0 I0 Γ Pu H I->
  ∃ I1,b8 P hint self fi fn T (ds.map (fun r=>({ target:= .collected r,args:=#[] }:Deferred))++D0) u I=b8 P hint self fi fn T D0 u I1/\aw P hint sh Γ Pu H I1/\Ex O Γ0 Pu0 H0 I0 Γ Pu H I1/\cH Γ Pu I Γ Pu I1:=by
 intro ds
 induction ds with
 |nil=>intro I Γ0 Pu0 H0 I0 _ _ hs hs0 hn he;exact ⟨I,rfl,hs,he,cH.refl⟩
 |cons d ds ih=>
  intro I Γ0 Pu0 H0 I0 hnd hd hs hs0 hn he;obtain ⟨a,b,c⟩:=hd d (List.mem_cons_self);obtain ⟨hnm,hnd'⟩:=List.nodup_cons.1 hnd;have hnp:¬ Pu d:=fun h=>by obtain ⟨cs,et,fz,ex,sd,hg⟩:=hs.pu d h;rw [c] at hg;cases hg
  obtain ⟨I1,e1,s1,x1,k1⟩:=ih (I:=I.put d (.mf false)) hnd' (fun r hr=>by
   obtain ⟨a',b',c'⟩:=hd r (zak _ hr);exact ⟨a',b',by rw [IH.ah,if_neg (by rintro rfl;exact hnm hr)];exact c'⟩) (hs.mark c) hs0 hn (Ex.mark hs0 he (Nat.le_trans hn b) (hs.S1 c))
  refine ⟨I1,?_,s1,x1,cH.trans ⟨fun _ _ h=>h,fun _ h=>h,fun b' hb'=>by rw [IH.ah,if_neg (by rintro rfl;exact hnp hb')]⟩ k1⟩;simp only [List.map_cons,List.cons_append,b8,c,if_pos a];exact e1
theorem Lm {fi:FI} {fn:Func} {E:GE} {E':En} {K:TV->GH->Option β} (h:GO P fi fn E H K=some r) (hs:aw P hint sh Γ Pu H I) (he:ER Γ Pu I E E'):∃ t v,K t H=some r/\GR Γ Pu I t v/\ey P fi fn E' I=some v:=by
 unfold GO at h;cases hres:Bo P fi E H fn.results.toList with
 |none=>rw [hres] at h;cases h
 |some ts=>
  obtain ⟨vs,m1,m2⟩:=OU hs he hres;rw [hres] at h;cases ts with
  |nil=>
   cases m2;exact ⟨_,_,h,.jg .nil,by simp only [ey,m1]⟩
  |cons t ts=>
   cases m2 with |cons a b=>
   rename_i v1 vs1;cases ts with
   |nil=>
    cases b;exact ⟨_,_,h,a,by simp only [ey,m1]⟩
   |cons t2 ts=>
    cases b with |cons b c=>
    exact ⟨_,_,h,.jg (.cons a (.cons b c)),by simp only [ey,m1]⟩
theorem HK {o:Oper} (h:isRec o=true):∃ a t,o.op= .call ⟨.builtin .recover,a,t⟩:=by
 unfold isRec at h;split at h
 ·rename_i a t ho;exact ⟨a,t,ho⟩
 ·cases h
theorem OA (ok:dv P hint sh sf self) {fi:FI} {ops:Array Oper}:∀ {l:List Oper} {E:GE} {E':En} {H:GH} {I:IH} {Γ:bc} {Pu:Nat->Prop} {u:Iv.Mode} {K:GE->GH->Iv.Mode->Option β},xh dW P sh sf fi ops l E H u K=some r->aw P hint sh Γ Pu H I->ER Γ Pu I E E'->
  ∃ E1 H1 u1 Γ1 Pu1 E1' I1,K E1 H1 u1=some r/\eI P self fi ops l E' I u=some (E1',I1,u1)/\ER Γ1 Pu1 I1 E1 E1'/\aw P hint sh Γ1 Pu1 H1 I1/\Ex (bx Γ H I) Γ Pu H I Γ1 Pu1 H1 I1:=by
 intro l
 induction l with
 |nil=>intro E E' H I Γ Pu u K h hs he;exact ⟨E,H,u,Γ,Pu,E',I,h,rfl,he,hs,Ex.refl hs⟩
 |cons o rest ih=>
  intro E E' H I Γ Pu u K h hs he;simp only [xh] at h;rcases rZ h he with ⟨hw,E2,h,he2,_⟩ |⟨hw,E2,h,he2,_⟩
  ·cases hir:isRec o with
   |true=>
    rw [hir] at h;simp only [zac] at h;obtain ⟨a,t,hop⟩:=HK hir;cases u with
    |returning=>
     obtain ⟨E3,H3,u3,Γ3,Pu3,E3',I3,j1,j2,j3⟩:=ih h hs (he2.put fi o.dst (.raw .nilIface));refine ⟨E3,H3,u3,Γ3,Pu3,E3',I3,j1,?_,j3⟩;simp only [eI,hw,hop];exact j2
    |panicking v b=>
     cases b with
     |false=>
      obtain ⟨E3,H3,u3,Γ3,Pu3,E3',I3,j1,j2,j3⟩:=ih h hs (he2.put fi o.dst (.raw v));refine ⟨E3,H3,u3,Γ3,Pu3,E3',I3,j1,?_,j3⟩;simp only [eI,hw,hop];exact j2
     |true=>
      obtain ⟨E3,H3,u3,Γ3,Pu3,E3',I3,j1,j2,j3⟩:=ih h hs (he2.put fi o.dst (.raw .nilIface));refine ⟨E3,H3,u3,Γ3,Pu3,E3',I3,j1,?_,j3⟩;simp only [eI,hw,hop];exact j2
   |false=>
    rw [hir] at h;simp only [zab] at h;rcases xC hs ok (bY hs he2) h with ⟨t,H1,Γ1,Pu1,v,I1,k1,k2,k3,k4,k5⟩ |⟨_,w,H1,Γ1,Pu1,I1,k1,_⟩
    ·simp only [wU k3] at k1
     obtain ⟨E3,H3,u3,Γ3,Pu3,E3',I3,j1,j2,j3,j4,j5⟩:=ih k1 k4 ((he2.mono (k5.cJ hs)).put fi o.dst k3);refine ⟨E3,H3,u3,Γ3,Pu3,E3',I3,j1,?_,j3,j4,Ex.trans hs k4 k5 j5⟩;have hno:∀ a t,o.op≠ .call ⟨.builtin .recover,a,t⟩:=fun a t ho=>by
      unfold isRec at hir;rw [ho] at hir;cases hir
     rcases im k2 with e |⟨e,rfl⟩
     ·simp only [eI,hw,e]
      first |exact j2 |(split<;>first |exact j2 |(exfalso;exact hno _ _ (by assumption)))
     ·simp only [eI,hw,e]
      first |exact j2 |(split<;>first |exact j2 |(exfalso;exact hno _ _ (by assumption)))
    ·cases k1
  ·obtain ⟨E3,H3,u3,Γ3,Pu3,E3',I3,j1,j2,j3⟩:=ih h hs (he2.put fi o.dst (.raw Go.undef))
   refine ⟨E3,H3,u3,Γ3,Pu3,E3',I3,j1,?_,j3⟩;simp only [eI,hw];exact j2
theorem ES (ok:dv P hint sh sf self) {bO:Nat} {fi:FI} {ro ro':Option Nat}:∀ {c:Code} {E:GE} {E':En} {H:GH} {I:IH} {Γ:bc} {Pu:Nat->Prop} {D:List Deferred} {K:X->GE->GH->Option β},
  gD c=true->gC stx P sh sf bO fi ro c E H K=some r->aw P hint sh Γ Pu H I->ER Γ Pu I E E'->
  ∃ x E1 H1 Γ1 Pu1 E1' I1,K x E1 H1=some r/\aA P self fi ro' c E' I D=some (x,E1',I1,D)/\ER Γ1 Pu1 I1 E1 E1'/\aw P hint sh Γ1 Pu1 H1 I1/\Ex (bx Γ H I) Γ Pu H I Γ1 Pu1 H1 I1:=by
 intro c
 induction c with
 |skip=>intro E E' H I Γ Pu D K _ h hs he;exact ⟨_,E,H,Γ,Pu,E',I,h,rfl,he,hs,Ex.refl hs⟩
 |label l=>intro E E' H I Γ Pu D K _ h hs he;exact ⟨_,E,H,Γ,Pu,E',I,h,rfl,he,hs,Ex.refl hs⟩
 |exit id=>intro E E' H I Γ Pu D K _ h hs he;exact ⟨_,E,H,Γ,Pu,E',I,h,rfl,he,hs,Ex.refl hs⟩
 |ret=>intro E E' H I Γ Pu D K _ h hs he;exact ⟨_,E,H,Γ,Pu,E',I,h,rfl,he,hs,Ex.refl hs⟩
 |goto l=>intro E E' H I Γ Pu D K _ h hs he;cases h
 |refuse w=>intro E E' H I Γ Pu D K _ h hs he;cases h
 |region id ops dr=>intro E E' H I Γ Pu D K _ h hs he;exact QT ok h hs he
 |seq a b iha ihb=>
  intro E E' H I Γ Pu D K hst h hs he;replace hst:=af hst;obtain ⟨x,E1,H1,Γ1,Pu1,E1',I1,k1,k2,k3,k4,k5⟩:=iha (D:=D) hst.1 h hs he;cases x with
  |normal=>
   obtain ⟨x,E2,H2,Γ2,Pu2,E2',I2,j1,j2,j3,j4,j5⟩:=ihb (D:=D) hst.2 k1 k4 k3;exact ⟨x,E2,H2,Γ2,Pu2,E2',I2,j1,by simp only [aA,k2,j2],j3,j4,Ex.trans hs k4 k5 j5⟩
  |_=>exact ⟨_,E1,H1,Γ1,Pu1,E1',I1,k1,by simp only [aA,k2],k3,k4,k5⟩
 |cond c a b iha ihb=>
  intro E E' H I Γ Pu D K hst h hs he;replace hst:=af hst;have hc:=bY (fi:=fi) hs he c;simp only [gC] at h;split at h
  ·rename_i t ht
   rw [ht] at hc;simp only [aA];have Fa:∀ b,dC fi E' c= .bool b->ER Γ Pu I (AF fi c b E) E':=fun b hb=>Fo he hb
   generalize hcv:dC fi E' c=cv at hc;cases hc;rcases iL h with ⟨rfl,h⟩ |⟨rfl,h⟩
   ·exact iha hst.1 (dw h) hs (Fa _ hcv)
   ·exact ihb hst.2 (dw h) hs (Fa _ hcv)
  ·cases h
 |block id c ih=>
  intro E E' H I Γ Pu D K hst h hs he;obtain ⟨x,E1,H1,Γ1,Pu1,E1',I1,k1,k2,k3,k4,k5⟩:=ih (D:=D) hst h hs he;cases x with
  |exit j=>
   simp only at k1;by_cases hj:j=id
   ·subst hj
    rw [Nat.beq_refl] at k1;exact ⟨_,E1,H1,Γ1,Pu1,E1',I1,k1,by simp only [aA,k2,if_true],k3,k4,k5⟩
   ·rw [fY hj] at k1
    exact ⟨_,E1,H1,Γ1,Pu1,E1',I1,k1,by simp only [aA,k2,if_neg hj],k3,k4,k5⟩
  |_=>exact ⟨_,E1,H1,Γ1,Pu1,E1',I1,k1,by simp only [aA,k2],k3,k4,k5⟩
 |scope c ih=>intro E E' H I Γ Pu D K hst h hs he;exact ih hst h hs he
 |loop a ih=>intro E E' H I Γ Pu D K hst;cases hst
 |rangeFunc f ps a b iha ihb=>intro E E' H I Γ Pu D K hst;cases hst
theorem MI (ok:dv P hint sh sf self) {g:FuncId} {args:List TV} {args':List Value} {u:Iv.Mode} {K:Iv.Mode->GH->Option β} (h:wo stx P sh hint sf g args u H K=some r) (hs:aw P hint sh Γ Pu H I) (ha:bK Γ Pu I args args'):
  ∃ u1 H1 Γ1 Pu1 I1,K u1 H1=some r/\nd P hint self g args' u I=some (u1,I1)/\aw P hint sh Γ1 Pu1 H1 I1/\Ex (bx Γ H I) Γ Pu H I Γ1 Pu1 H1 I1:=by
 unfold wo at h;split at h
 ·rename_i fn hfn
  split at h
  ·rename_i id ops rest hb
   replace h:=ae h;obtain ⟨hc,h⟩:=h;replace hc:=af hc;obtain ⟨hc,c5⟩:=hc;replace hc:=af hc;obtain ⟨hc,c4⟩:=hc;replace hc:=af hc;obtain ⟨hc,c3⟩:=hc;have hfit:fits fn args'=true:=by unfold fits;rw [ha.length];exact c3
   obtain ⟨E1,H1,u1,Γ1,Pu1,E1',I1,k1,k2,k3,k4,k5⟩:=OA ok h hs (ER.args ha);obtain ⟨x,E2,H2,Γ2,Pu2,E2',I2,j1,j2,j3,j4,j5⟩:=ES (ro':=none) (D:= []) ok c5 k1 k4 k3;have hev:∀ y,x=y->(y= .normal∨y= .ret)->nd P hint self g args' u I=some (u1,I2):=by
    intro y hxy hy;subst hxy;simp only [nd,hfn,hb,hc,hfit,Bool.and_self,if_true,k2];rcases hy with rfl |rfl
    ·simp only [j2,c4,if_true]
    ·simp only [j2,c4,if_true]
   cases x with
   |normal=>exact ⟨u1,H2,Γ2,Pu2,I2,j1,hev _ rfl (.inl rfl),j4,Ex.trans hs k4 k5 j5⟩
   |ret=>exact ⟨u1,H2,Γ2,Pu2,I2,j1,hev _ rfl (.inr rfl),j4,Ex.trans hs k4 k5 j5⟩
   |exit id=>cases j1
   |panic w=>cases j1
  ·cases h
 ·cases h
def NR:List Code->Code->Code
 | [],c=>c
 |a::r,c=> .seq a (NR r c)
theorem Dd {ops:Array Oper} {o:Oper} {x:Operand} {xs:Array Operand} (h:CV ops=some (o,x,xs)):
  ∃ cl,ops.toList=ops.toList.dropLast++ [o]/\o.guard=none/\o.op= .defer cl/\cl.callee= .value x/\cl.args=xs:=by
 unfold CV at h;split at h
 ·rename_i o' hl
  split at h
  ·rename_i cl ho hg
   split at h
   ·rename_i f hcl
    cases h;refine ⟨cl,?_,hg,ho,hcl,rfl⟩;have key:∀ (l:List Oper) (o:Oper),l.getLast? =some o->l=l.dropLast++ [o]:=by
     intro l
     induction l with
     |nil=>intro o h;cases h
     |cons a r ih=>
      intro o h;cases r with
      |nil=>simp at h;simp [h]
      |cons b r=>
       rw [List.getLast?_cons_cons] at h;rw [List.dropLast_cons_cons,List.cons_append,←ih o h]
    exact key _ _ hl
   ·cases h
  ·cases h
 ·cases h
theorem C6:∀ {c:Code} {pre:List Code} {ops:Array Oper} {o:Oper} {x:Operand} {xs:Array Operand} {rest:Code},pU c=some (pre,ops,o,x,xs,rest)->
  ∃ id cl,c=NR pre (.seq (.region id ops false) rest)/\(∀ a∈pre,∃ i op d,a= .region i op d)/\ops.toList=ops.toList.dropLast++ [o]/\o.guard=none/\o.op= .defer cl/\cl.callee= .value x/\cl.args=xs:=by
 intro c
 induction c with
 |seq a b iha ihb=>
  intro pre ops o x xs rest h;cases a with
  |region id ops' dr=>
   simp only [pU] at h;split at h
   ·rename_i o' f' xs' hd
    cases h;cases dr with
    |true=>cases hd
    |false=>
     obtain ⟨cl,h1⟩:=Dd hd;exact ⟨id,cl,rfl,(fun a ha=>by cases ha),h1⟩
   ·split at h
    ·rename_i pre' q hq
     cases h;obtain ⟨id',cl,e,hp,h1⟩:=ihb hq;refine ⟨id',cl,by rw [e];rfl,fun a ha=>?_,h1⟩;rcases List.mem_cons.1 ha with rfl |ha
     ·exact ⟨_,_,_,rfl⟩
     ·exact hp a ha
    ·cases h
  |_=>cases h
 |_=>intro pre ops o x xs rest h;cases h
theorem ON {c:Code}:∀ {pre:List Code} {d:Code},Sub d c->Sub d (NR pre c):=by
 intro pre
 induction pre with
 |nil=>intro d h;exact h
 |cons a r ih=>intro d h;exact .Ia (ih h)
theorem TD (ok:dv P hint sh sf self) {bO:Nat} {fi:FI}:∀ {pre:List Code} {E:GE} {E':En} {H:GH} {I:IH} {Γ:bc} {Pu:Nat->Prop} {K:GE->GH->Option β},(∀ a∈pre,∃ i op d,a=Code.region i op d)->WI stx P sh sf bO fi pre E H K=some r->aw P hint sh Γ Pu H I->ER Γ Pu I E E'->
  ∃ E1 H1 Γ1 Pu1 E1' I1,K E1 H1=some r/\(∀ c,aA P self fi none (NR pre c) E' I []=aA P self fi none c E1' I1 [])/\ER Γ1 Pu1 I1 E1 E1'/\aw P hint sh Γ1 Pu1 H1 I1/\Ex (bx Γ H I) Γ Pu H I Γ1 Pu1 H1 I1:=by
 intro pre
 induction pre with
 |nil=>intro E E' H I Γ Pu K _ h hs he;exact ⟨E,H,Γ,Pu,E',I,h,fun _=>rfl,he,hs,Ex.refl hs⟩
 |cons a q ih=>
  intro E E' H I Γ Pu K hp h hs he;obtain ⟨i,op,d,rfl⟩:=hp a List.mem_cons_self;obtain ⟨x,E1,H1,Γ1,Pu1,E1',I1,k1,k2,k3,k4,k5⟩:=QT (ro':=none) (D:= []) ok h hs he;cases x with
  |normal=>
   obtain ⟨E2,H2,Γ2,Pu2,E2',I2,j1,j2,j3,j4,j5⟩:=ih (fun a ha=>hp a (zak _ ha)) k1 k4 k3;refine ⟨E2,H2,Γ2,Pu2,E2',I2,j1,fun c=>?_,j3,j4,Ex.trans hs k4 k5 j5⟩
   show aA P self fi none (.seq (.region i op d) (NR q c)) E' I []=_
   simp only [aA] at k2 ⊢;rw [k2];exact j2 c
  |_=>cases k1
theorem Og {fi:FI} {ro:Option Nat} {ops:Array Oper} {l2:List Oper}:∀ {l1:List Oper} {T T1:En} {H H1:IH} {D D1:List Deferred},c7 P self fi ro ops l1 T H D=some (.normal,T1,H1,D1)->c7 P self fi ro ops (l1++l2) T H D=c7 P self fi ro ops l2 T1 H1 D1:=by
 intro l1
 induction l1 with
 |nil=>intro T T1 H H1 D D1 h;cases h;rfl
 |cons o r ih=>
  intro T T1 H H1 D D1 h;simp only [c7] at h;simp only [List.cons_append,c7];split at h
  ·split at h
   ·exact ih h
   ·exact ih h
   ·split at h
    ·rename_i hr;rw [if_pos hr];exact ih h
    ·cases h
   ·cases h
   ·cases h
  ·exact ih h
  ·cases h
theorem Nr (ok:dv P hint sh sf self) (hs:aw P hint sh Γ Pu H I) {f:FuncId} {fn:Func} {c:Code} {pre:List Code} {ops:Array Oper} {o:Oper} {x:Operand} {xs:Array Operand} {rest:Code} {args:List TV} {args':List Value} {K:TV->GH->Option β} (hfn:P.funcs[f]? =some fn) (hc:fn.body=some c) (hfit:fits fn args'=true)
  (hd:pU c=some (pre,ops,o,x,xs,rest)) (h:Im stx P sh hint sf f fn pre ops o x xs rest args H K=some r) (ha:bK Γ Pu I args args'):eQ P hint sh K r Γ Pu H I (cb P hint self f args' I):=by
 obtain ⟨id,cl,rfl,hpre,hops,hg,hop,hcl,rfl⟩:=C6 hd;unfold Im at h;obtain ⟨E0,H0,Γ0,Pu0,E0',I0,p1,p2,p3,p4,p5⟩:=TD ok hpre h hs (ER.args ha);rcases KS (ro:=none) (D:= []) ok p1 p4 p3.reset with ⟨E1,H1,Γ1,Pu1,E1',I1,k1,k2,k3,k4,k5⟩ |⟨_,_,_,_,_,_,_,k1,_⟩
 case inr=>cases k1
 replace k5:=Ex.trans hs p4 p5 k5;have hx:=bY (fi:=cQ hint f fn) k4 k3 x;dsimp only at k1;split at k1
 ·rename_i g first captured hxe
  rw [hxe] at hx;generalize hov:dC (cQ hint f fn) E1' x=fv at hx;cases hx with |fn ra rc=>
  rename_i first' captured';have gas:=bK.map (bY (fi:=cQ hint f fn) k4 k3) cl.args.toList;have gal:=(ra.append gas).append rc;obtain ⟨d,hdq⟩:∃ d:Deferred,d={ target:= .fn (.func g) ⟨captured'⟩,args:=⟨first'++cl.args.toList.map (dC (cQ hint f fn) E1')⟩ }:=⟨_,rfl⟩;have hev1:aO P self (dC (cQ hint f fn) E1') I1 o=some (.defer d I1):=by
   unfold aO;simp only [hop,hcl,hov,kJ,eU,if_true,hdq]
  have hreg:c7 P self (cQ hint f fn) none ops ops.toList E0'.reset I0 []=some (.normal,c8 (cQ hint f fn) E1' o.dst Go.undef,I1,[d]):=by
   rw [hops,Og k2];simp only [c7,bG,hg,hev1,Option.isNone_none,if_true]
  obtain ⟨y,E2,H2,Γ2,Pu2,E2',I2,D2,j1,j2,j3,j4,j5,j6,_⟩:=Kn ok k1 k4 (k3.put (cQ hint f fn) o.dst (.raw Go.undef)) ⟨fn,_,hfn,hc,rfl,ON (.Ia (.refl _))⟩ (.inl ⟨rfl,rfl⟩) (Ab.nil I1.n [d] I1) (zai _);have hcode:aA P self (cQ hint f fn) none (NR pre (.seq (.region id ops false) rest)) (eA args') I []=some (y,E2',I2,D2):=by
   rw [p2];simp only [aA,hreg,j2]
  obtain ⟨ds,d1,hD,d3⟩:=j6;subst hD
  have fin:∀ (u0:Iv.Mode),wo stx P sh hint sf g (first++cl.args.toList.map (bZ (cQ hint f fn) E1)++captured) u0 H2 (fun u H=>Du u H K (GO P (cQ hint f fn) fn E2 H K))=some r->
    cb P hint self f args' I=b8 P hint self (cQ hint f fn) fn E2' (ds.map (fun r=>({ target:= .collected r,args:=#[] }:Deferred))++ [d]) u0 I2->eQ P hint sh K r Γ Pu H I (cb P hint self f args' I):=by
   intro u0 hgd hcl2;obtain ⟨I3,e3,s3,x3,kk⟩:=Hw (P:=P) (hint:=hint) (self:=self) (fi:=cQ hint f fn) (fn:=fn) (T:=E2') (D0:= [d]) (u:=u0) d1 d3 j4 k4 (zai _) j5;obtain ⟨u1,H4,Γ4,Pu4,I4,q1,q2,q3,q4⟩:=MI ok hgd s3 (gal.mono (x3.cJ k4));have x4:=Ex.trans hs s3 (Ex.trans hs k4 k5 x3) q4;have hl:b8 P hint self (cQ hint f fn) fn E2' [d] u0 I3=b8 P hint self (cQ hint f fn) fn E2' [] (qT u1) I4:=by
    have:d.args.toList++captured'=first'++cl.args.toList.map (dC (cQ hint f fn) E1')++captured':=by rw [hdq]
    rw [←this] at q2;subst hdq;simp only [b8,q2]
   rw [hcl2,e3,hl];have okret:qT u1= .returning->GO P (cQ hint f fn) fn E2 H4 K=some r->eQ P hint sh K r Γ Pu H I (b8 P hint self (cQ hint f fn) fn E2' [] (qT u1) I4):=by
    intro hset hres;rw [hset];obtain ⟨t,v,m1,m2,m3⟩:=Lm hres q3 (j3.mono (cH.trans kk (q4.cJ s3)));exact .inl ⟨t,H4,Γ4,Pu4,v,I4,m1,by simp only [b8,m3],m2,q3,x4⟩
   cases u1 with
   |returning=>exact okret rfl q1
   |panicking v b=>
    cases b with
    |true=>exact okret rfl q1
    |false=>exact .inr ⟨v,H4,Γ4,Pu4,I4,q1,rfl,q3,x4⟩
  cases y with
  |normal=>exact fin .returning j1 (by simp only [cb,hfn,hc,hfit,if_true,hcode])
  |ret=>exact fin .returning j1 (by simp only [cb,hfn,hc,hfit,if_true,hcode])
  |panic w=>exact fin (.panicking w false) j1 (by simp only [cb,hfn,hc,hfit,if_true,hcode])
  |exit id=>cases j1
 ·cases k1
theorem pq (ok:dv P hint sh sf self) (hs:aw P hint sh Γ Pu H I) {f:FuncId} {args:List TV} {args':List Value} {K:TV->GH->Option β} (h:Bu stx P sh hint sf f args H K=some r) (ha:bK Γ Pu I args args'):eQ P hint sh K r Γ Pu H I (cb P hint self f args' I):=by
 unfold Bu at h;split at h
 ·rename_i fn hfn
  split at h
  ·rename_i c hc
   replace h:=ae h;obtain ⟨hb,h⟩:=h;have hfit:fits fn args'=true:=by unfold fits;rw [ha.length];exact hb
   split at h
   ·rename_i pre ops o x xs rest hd
    exact Nr ok hs hfn hc hfit hd h ha
   ·obtain ⟨x,E1,H1,Γ1,Pu1,E1',I1,D1,k1,k2,k3,k4,k5,k6,k7⟩:=Kn ok h hs (ER.args ha) ⟨fn,c,hfn,hc,rfl,.refl _⟩ (.inl ⟨rfl,rfl⟩) (Ab.nil I.n [] I) (zai _)
    obtain ⟨ds,d1,hD,d3⟩:=k6;subst hD;have fin:∀ u0,cb P hint self f args' I=b8 P hint self (cQ hint f fn) fn E1' (ds.map (fun r=>({ target:= .collected r,args:=#[] }:Deferred))++ []) u0 I1->∃ I2,cb P hint self f args' I=b8 P hint self (cQ hint f fn) fn E1' [] u0 I2/\aw P hint sh Γ1 Pu1 H1 I2/\Ex (bx Γ H I) Γ Pu H I Γ1 Pu1 H1 I2/\cH Γ1 Pu1 I1 Γ1 Pu1 I2:=fun u0 e=>by
     obtain ⟨I2,e1,s2,x2,kk⟩:=Hw (P:=P) (hint:=hint) (self:=self) (fi:=cQ hint f fn) (fn:=fn) (T:=E1') (D0:= []) (u:=u0) d1 d3 k4 hs (zai _) k5;exact ⟨I2,e.trans e1,s2,x2,kk⟩
    have ret:GO P (cQ hint f fn) fn E1 H1 K=some r->cb P hint self f args' I=b8 P hint self (cQ hint f fn) fn E1' (ds.map (fun r=>({ target:= .collected r,args:=#[] }:Deferred))++ []) .returning I1->eQ P hint sh K r Γ Pu H I (cb P hint self f args' I):=fun hres e=>by
     obtain ⟨I2,e1,s2,x2,kk⟩:=fin _ e;obtain ⟨t,v,m1,m2,m3⟩:=Lm hres s2 (k3.mono kk);exact .inl ⟨t,H1,Γ1,Pu1,v,I2,m1,by rw [e1];simp only [b8,m3],m2,s2,x2⟩
    cases x with
    |normal=>exact ret k1 (by simp only [cb,hfn,hc,hfit,if_true,k2])
    |ret=>exact ret k1 (by simp only [cb,hfn,hc,hfit,if_true,k2])
    |exit id=>cases k1
    |panic w=>
     obtain ⟨I2,e1,s2,x2,kk⟩:=fin (.panicking w false) (by simp only [cb,hfn,hc,hfit,if_true,k2]);exact .inr ⟨w,H1,Γ1,Pu1,I2,k1,by rw [e1];rfl,s2,x2⟩
  ·cases h
 ·cases h
structure sq (P:Program) (hint:Hint) (sh:cA) (hk:tu β) (n:Nat):Prop where
 call:∀ {f:FuncId} {g:Nat->List TV->GH->(TV->GH->Option β)->Option β} {args:List TV} {args':List Value} {H:GH} {K:TV->GH->Option β} {r:β} {Γ:bc} {Pu:Nat->Prop} {I:IH},
  hk.call f=some g->g n args H K=some r->aw P hint sh Γ Pu H I->bK Γ Pu I args args'->eQ P hint sh K r Γ Pu H I (cb P hint (ev P hint (cP hint) n) f args' I)
 loop:∀ {bO:Nat} {fi:FI} {ro ro':Option Nat} {c:Code} {g:Nat->GE->GH->(X->GE->GH->Option β)->Option (Option β)} {E:GE} {E':En} {H:GH} {K:X->GE->GH->Option β} {r:β} {Γ:bc} {Pu:Nat->Prop} {I:IH} {n0:DB} {D:List Deferred},
  hk.loop bO (dL c) ro=some g->g n E H K=some (some r)->aw P hint sh Γ Pu H I->ER Γ Pu I E E'->Oj P hint bO fi (.loop c)->Oo Γ ro ro'->Ab n0 I D->n0.n<=I.n->dQ P hint sh K r Γ Pu H I n0 ro D (aA P (ev P hint (cP hint) n) fi ro' (.loop c) E' I D)
theorem Wv {g:Nat} (hs:aw P hint sh Γ Pu H I) (hg:g<bU) (h:WD sh g=true):CR I g (mh.map fun z=> .int .u64 z):=by
 unfold WD at h;split at h
 ·rename_i xs hT
  have hx:xs=mh:=by simpa using h
  subst hx;obtain ⟨_,vs,et,fz,ex,sd,h2,h6,h7,h3⟩:=hs.HX g _ hg hT;refine ⟨vs,et,fz,ex,sd,h2,h6,by rw [h7,List.length_map];exact Nat.mul_one _,fun i v hv=>?_⟩;rw [List.getElem?_map,Option.map_eq_some_iff] at hv;obtain ⟨z,hz,rfl⟩:=hv;obtain ⟨h4,h5⟩:=h3 i z hz;unfold cy at h5;have:(vs.drop (i*1))[0]? =some (.int .u64 z):=by
   have h6:((vs.drop (i*1)).take 1)[0]? =some (Value.int .u64 z):=by
    show ((vs.drop (i*(Sh.int .u64).sz)).take (Sh.int .u64).sz)[0]? =_
    rw [h5];rfl
   rw [List.getElem?_take] at h6;simpa using h6
  simpa using this
 ·cases h
theorem Qt {g:Nat} {xs:List UInt8} (hs:aw P hint sh Γ Pu H I) (hg:g<bU) (h:sh.tb g=some ⟨.byte,xs⟩):CR I g (xs.map s9):=by
 obtain ⟨_,vs,et,fz,ex,sd,h2,h6,h7,h3⟩:=hs.HX g _ hg h;refine ⟨vs,et,fz,ex,sd,h2,h6,by rw [h7,List.length_map];exact Nat.mul_one _,fun i v hv=>?_⟩;rw [List.getElem?_map,Option.map_eq_some_iff] at hv;obtain ⟨z,hz,rfl⟩:=hv;obtain ⟨h4,h5⟩:=h3 i z hz;unfold cy at h5;have h8:((vs.drop (i*1)).take 1)[0]? =some (s9 z):=by
  show ((vs.drop (i*Sh.byte.sz)).take Sh.byte.sz)[0]? =_
  rw [h5];rfl
 rw [List.getElem?_take] at h8;simpa using h8
theorem VE {g:Nat} {ys:List (UInt8×UInt8)} (hs:aw P hint sh Γ Pu H I) (hg:g<bU) (h:sh.tb g=some ⟨.cons .byte .byte,ys⟩):CR I g (ys.flatMap fun p=> [s9 p.1,s9 p.2]):=by
 obtain ⟨_,vs,et,fz,ex,sd,h2,h6,h7,h3⟩:=hs.HX g _ hg h;have hlen:∀ l:List (UInt8×UInt8),(l.flatMap fun p=> [s9 p.1,s9 p.2]).length=l.length*2:=by
  intro l;induction l with
  |nil=>rfl
  |cons a r ih=>rw [List.flatMap_cons,zaf,ih];simp;omega
 refine ⟨vs,et,fz,ex,sd,h2,h6,by rw [h7,hlen];rfl,fun i v hv=>?_⟩;have hat:∀ (l:List (UInt8×UInt8)) (i:Nat) (v:Value),(l.flatMap fun p=> [s9 p.1,s9 p.2])[i]? =some v->∃ p,l[i / 2]? =some p/\v=if i%2=0 then s9 p.1 else s9 p.2:=by
  intro l
  induction l with
  |nil=>intro i v h;simp at h
  |cons a r ih=>
   intro i v h
   match i,h with
   |0,h=>simp at h;exact ⟨a,by simp,by simp [h]⟩
   |1,h=>simp at h;exact ⟨a,by simp,by simp [h]⟩
   |i+2,h=>
    simp at h;obtain ⟨p,h1,h2⟩:=ih i v (by simpa using h);refine ⟨p,?_,?_⟩
    ·rw [show (i+2) / 2=i / 2+1 by omega];simpa using h1
    ·rw [show (i+2)%2=i%2 by omega];exact h2
 obtain ⟨p,h1,h9⟩:=hat ys i v hv;obtain ⟨h4,h5⟩:=h3 (i / 2) p h1;have h5':(vs.drop (i / 2*2)).take 2= [s9 p.1,s9 p.2]:=by
  unfold cy at h5;obtain ⟨u,w,e1,e2,e3⟩:=h5;unfold cy at e2 e3;subst e2;subst e3;exact e1
 have h10:((vs.drop (i / 2*2)).take 2)[i%2]? =some v:=by
  rw [h5',h9];rcases Nat.mod_two_eq_zero_or_one i with h |h<;>rw [h]<;>rfl
 rw [List.getElem?_take,if_pos (Nat.mod_lt _ (by decide)),List.getElem?_drop,show i / 2*2+i%2=i by omega] at h10;exact h10
theorem Pe {k g:Nat} {args:List TV} {args':List Value} {K:TV->GH->Option β} (hs:aw P hint sh Γ Pu H I) (h:AD dW sh k g args H K=some (some r)) (ha:bK Γ Pu I args args'):
  ∃ t v,jG k g args' I=some v/\K t H=some r/\GR Γ Pu I t v:=by
 unfold AD at h;split at h
 ·cases ha;exact ⟨_,_,rfl,by simpa using h,.bool true⟩
 ·rename_i n
  simp only [Option.some.injEq] at h;replace h:=ae h;obtain ⟨hb,h⟩:=h;simp only [zae] at hb;have h:=aE h;cases ha with |cons a b=>
  cases a;cases b;refine ⟨_,_,?_,h.2,.str _⟩;have hg:g<bU:=Nat.le_of_ble_eq_true hb.1;have:jG 1 g [.int .i64 n] I=some (.string (ba (Lib.itoa n))):=by
   unfold jG;exact if_pos ⟨h.1,hg,Wv hs hg hb.2⟩
  exact this
 ·rename_i s cs
  replace h:=ae h;obtain ⟨hb,h⟩:=h;simp only [Option.some.injEq] at h;cases ha with |cons a b=>
  cases a;cases b with |cons a b=>
  cases a;cases b;refine ⟨_,_,?_,h,.str _⟩;have:jG 2 g [.string (ba s),.string (ba cs)] I=bif xR cs then some (.string (ba (Lib.trimLeftS s cs))) else none:=rfl
  rw [this,hb];rfl
 ·rename_i s
  simp only [Option.some.injEq] at h;replace h:=ae h;obtain ⟨hb,h⟩:=h;simp only [zae] at hb;have h:=aE h;cases ha with |cons a b=>
  cases a;cases b;refine ⟨_,_,?_,h.2,.bool _⟩;have hg1:g / 1000<bU:=Nat.le_of_ble_eq_true hb.1;have hg2:g%1000<bU:=Nat.le_of_ble_eq_true hb.2.1;have hU:=hb.2.2;unfold Xe at hU;rw [zae] at hU;obtain ⟨hU1,hU2⟩:=hU;have t1:CR I (g / 1000) (sr.map s9):=by
   split at hU1
   ·rename_i xs hT
    have hx:xs=sr:=by simpa using hU1
    subst hx;exact Qt hs hg1 hT
   ·cases hU1
  have t2:CR I (g%1000) (MA.flatMap fun p=> [s9 p.1,s9 p.2]):=by
   split at hU2
   ·rename_i xs hT
    have hx:xs=MA:=by simpa using hU2
    subst hx;exact VE hs hg2 hT
   ·cases hU2
  have:jG 3 g [.string (ba s)] I=some (.bool (Lib.validD s)):=by
   unfold jG;exact if_pos ⟨h.1,⟨hg1,hg2⟩,t1,t2⟩
  exact this
 ·cases h
theorem SB {k g:Nat} {args:List TV} {args':List Value} {K:TV->GH->Option β} (h:AD dW sh k g args H K=none) (ha:bK Γ Pu I args args'):jG k g args' I=none:=by
 unfold AD at h;split at h
 ·cases h
 ·cases h
 ·rename_i s cs
  cases hb:xR cs with
  |true=>rw [hb] at h;cases h
  |false=>
   cases ha with |cons a b=>
   cases a;cases b with |cons a b=>
   cases a;cases b;have:jG 2 g [.string (ba s),.string (ba cs)] I=bif xR cs then some (.string (ba (Lib.trimLeftS s cs))) else none:=rfl
   rw [this,hb];rfl
 ·cases h
 ·cases h
theorem Ou {hk:tu β}:∀ n,(∀ m,m<=n->sq P hint sh hk m)->dv P hint sh (gv stx P sh hint hk n) (ev P hint (cP hint) n):=by
 intro n
 induction n with
 |zero=>
  intro ho;refine ⟨(fun h=>by cases h),(fun h=>by cases h),?_⟩;intro bO fi ro ro' c d E E' H K r Γ Pu I n0 D h hs he hf hr hd hn;simp only [gv] at h;cases hst:OG (hint Gh) bO (dL c) with
  |true=>rw [hst] at h;exact .inr (by cases h)
  |false=>
  rw [hst] at h;simp only [zab] at h;split at h
  ·rename_i g hg
   split at h
   ·rename_i q hq
    subst h;exact .inr ((ho 0 (zai _)).loop hg hq hs he hf hr hd hn)
   ·exact .inl h
  ·exact .inl h
 |succ n ih=>
  intro ho;have hi:=ih fun m hm=>ho m (Nat.le_succ_of_le hm)
  refine ⟨?_,?_,?_⟩
  ·intro f args H K r Γ Pu I args' h hs ha
   simp only [gv] at h
   show eQ P hint sh K r Γ Pu H I (di P hint (cP hint) (ev P hint (cP hint) n) f args' I)
   cases hal:nA (hint jr) f with
   |some kg=>
    obtain ⟨k,g⟩:=kg;rw [hal] at h;simp only at h;cases hsp:AD stx.cm sh k g args H K with
    |some q=>
     rw [hsp] at h;simp only at h;subst h;obtain ⟨t,v,hv,hK,hr⟩:=Pe hs hsp ha;have e:di P hint (cP hint) (ev P hint (cP hint) n) f args' I=some (.returned v,I):=by
      simp only [di,cP,hal,KK,hv,Option.map_some]
     rw [e];exact .inl ⟨_,_,_,_,_,_,hK,rfl,hr,hs,Ex.refl hs⟩
    |none=>
     rw [hsp] at h;simp only at h;have hv:=SB hsp ha;have e:di P hint (cP hint) (ev P hint (cP hint) n) f args' I=cb P hint (ev P hint (cP hint) n) f args' I:=by
      simp only [di,cP,hal,KK,hv,Option.map_none]
     rw [e];split at h
     ·rename_i g hg
      exact (ho n (Nat.le_succ n)).call hg h hs ha
     ·exact pq hi hs h ha
   |none=>
   have e:di P hint (cP hint) (ev P hint (cP hint) n) f args' I=cb P hint (ev P hint (cP hint) n) f args' I:=by
    simp only [di,cP,hal]
   rw [e];rw [hal] at h;simp only at h;cases hst:ou (hint Pc) f with
   |true=>rw [hst] at h;cases h
   |false=>
   rw [hst] at h;simp only [zab] at h;split at h
   ·rename_i g hg
    exact (ho n (Nat.le_succ n)).call hg h hs ha
   ·exact pq hi hs h ha
  ·intro bO fi ro ro' c E E' H K r Γ Pu I n0 D h hs he hf hr hd hn
   exact Kn hi h hs he hf hr hd hn
  ·intro bO fi ro ro' c d E E' H K r Γ Pu I n0 D h hs he hf hr hd hn
   simp only [gv] at h;cases hst:OG (hint Gh) bO (dL c) with
   |true=>rw [hst] at h;exact .inr (by cases h)
   |false=>
   rw [hst] at h;simp only [zab] at h;split at h
   ·rename_i g hg
    split at h
    ·rename_i q hq
     subst h;exact .inr ((ho (n+1) (zai _)).loop hg hq hs he hf hr hd hn)
    ·exact .inl h
   ·exact .inl h
end
end Go.Gv
