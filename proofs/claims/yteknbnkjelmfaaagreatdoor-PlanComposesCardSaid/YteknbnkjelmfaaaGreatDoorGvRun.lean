/- The pure evaluator's runs are the ideal one's: operations, regions, calls of yield. -/
import Derived.Test.YteknbnkjelmfaaaGreatDoorGvMapN
set_option linter.unusedSimpArgs false
set_option linter.unusedVariables false
namespace Go.Gv
open Go Go.Iv
structure DB where
 n:Nat
 D:List Deferred
def Aq (n0:DB) (I:IH) (D:List Deferred):Prop:=
 ∃ ds:List Nat,ds.Nodup/\D=ds.map (fun r=>({ target:= .collected r,args:=#[] }:Deferred))++n0.D/\∀ r∈ds,ep<=r/\n0.n<=r/\I.get r=some (.mg true)
def Kc (Γ:aN) (ro ro':Option Nat):Prop:=
 (ro=none/\ro'=none)\/∃ l b loc,ro=some l/\ro'=some b/\Γ l=some loc/\loc.pos=some (b,0)
section
variable {Z:Type} {P:Program} {hint:Hint} {sh:bU} {O:Nat->Prop} {Γ Γ1:aN} {Pu Pu1:Nat->Prop} {H H1:GH} {I I1 I2:IH} {r:Z}
theorem au.ze (hs:au P hint sh Γ Pu H I) {b:Nat} {o:Bool} (hb:I.get b=some (.mg o)):¬ bk Γ H I b:=by
 rintro ⟨id,ob,l,hg,hm,hl,hat⟩;obtain ⟨l',hl',ho⟩:=hs.obj id ob hg;cases hl.symm.trans hl';rcases hat with ⟨x,hp⟩ |hat
 .cases ob with
  |cells et cs w=>obtain ⟨b',vs,fz,ex,sd,hp',hb',_⟩:=ho;grind
  |arr et e xs w fz em=>obtain ⟨vs,f,ex,sd,h⟩:=im.get ho hp;grind
  |nest et e no net ne xs em ho'=>
   obtain ⟨_,_,_,_,h1 |⟨b',o,vs,f,ex,hp',_,hb',_⟩⟩:=ho
   .rw [h1.1] at hp;cases hp
   grind
  |iter s pos=>obtain ⟨b',hp',_,hb'⟩:=ho;grind
  |map kt gk ge k e xs em=>
   obtain ⟨_,⟨h1,_⟩ |⟨b',es,ck,hp',_,_,hb',_⟩⟩:=ho
   .rw [h1] at hp;cases hp
   grind
  |gw kt gk k net ne xs ho'=>obtain ⟨_,_,_,b',es,ck,hp',_,hb',_⟩:=ho;grind
  |loop bx st pd fi E ps eo body=>obtain ⟨b',E',hp',_,hb',_⟩:=ho;grind
 .cases ob with
  |nest et e no net ne xs em ho'=>
   obtain ⟨i,hi⟩:=hat;obtain ⟨x,v,l',o',_,h2,_,h4⟩:=bo.at ho hi;obtain ⟨vs,f,ex,sd,h⟩:=h2.get h4
   grind
  |gw kt gk k net ne xs ho'=>
   obtain ⟨i,hi⟩:=hat;obtain ⟨x,v,l',o',_,h2,_,h4⟩:=jU.at ho hi;obtain ⟨vs,f,ex,sd,h⟩:=h2.get h4
   grind
  |_=>cases hat
theorem Aq.ex (hs:au P hint sh Γ Pu H I) (he:Ex (bk Γ H I) Γ Pu H I Γ1 Pu1 H1 I1) {n0:DB} {D:List Deferred} (h:Aq n0 I D):Aq n0 I1 D:=by
 obtain ⟨ds,h1,h2,h3⟩:=h;refine ⟨ds,h1,h2,fun r hr=>?_⟩;obtain ⟨a,b,c⟩:=h3 r hr;exact ⟨a,b,(he.cE r (hs.lt c) (hs.ze c)).trans c⟩
theorem Kc.mono (h:∀ id l,Γ id=some l->Γ1 id=some l) {ro ro':Option Nat} (hr:Kc Γ ro ro'):Kc Γ1 ro ro':=by
 rcases hr with h0 |⟨l,b,loc,h1,h2,h3,h4⟩
 .exact .inl h0
 .exact .inr ⟨l,b,loc,h1,h2,h _ _ h3,h4⟩
def gb (P:Program) (hint:Hint) (sh:bU) (K:TV->GH->Option Z) (r:Z) (Γ:aN) (Pu:Nat->Prop) (H:GH) (I:IH) (run:Option (Iv.End×IH)):Prop:=
 (∃ t H1 Γ1 Pu1 v I1,K t H1=some r/\run=some (.returned v,I1)/\GR Γ1 Pu1 I1 t v/\au P hint sh Γ1 Pu1 H1 I1/\Ex (bk Γ H I) Γ Pu H I Γ1 Pu1 H1 I1)\/
 (∃ w H1 Γ1 Pu1 I1,K (.J6 w) H1=some r/\run=some (.panicked w,I1)/\au P hint sh Γ1 Pu1 H1 I1/\Ex (bk Γ H I) Γ Pu H I Γ1 Pu1 H1 I1)
def Pn (P:Program) (hint:Hint) (sh:bU) (K:TV->GH->Option Z) (r:Z) (Γ:aN) (Pu:Nat->Prop) (H:GH) (I:IH) (run:Option az):Prop:=
 ∃ w H1 Γ1 Pu1 I1,K (.J6 w) H1=some r/\run=some (.panic w I1)/\au P hint sh Γ1 Pu1 H1 I1/\Ex (bk Γ H I) Γ Pu H I Γ1 Pu1 H1 I1
def dE (P:Program) (hint:Hint) (sh:bU) (K:X->GE->GH->Option Z) (r:Z) (Γ:aN) (Pu:Nat->Prop) (H:GH) (I:IH) (n0:DB) (ro:Option Nat) (D:List Deferred) (run:qx):Prop:=
 ∃ x E1 H1 Γ1 Pu1 E1' I1 D1,K x E1 H1=some r/\run=some (x,E1',I1,D1)/\ER Γ1 Pu1 I1 E1 E1'/\au P hint sh Γ1 Pu1 H1 I1/\Ex (bk Γ H I) Γ Pu H I Γ1 Pu1 H1 I1/\Aq n0 I1 D1/\(ro.isSome=true->D1=D)
structure ej (P:Program) (hint:Hint) (sh:bU) (sf:fD Z) (sl:Self):Prop where
 call:∀ {f:FuncId} {args:List TV} {H:GH} {K:TV->GH->Option Z} {r:Z} {Γ:aN} {Pu:Nat->Prop} {I:IH} {args':List Value},sf.call f args H K=some r->au P hint sh Γ Pu H I->br Γ Pu I args args'->gb P hint sh K r Γ Pu H I (sl.call f args' I)
 code:∀ {bx:Nat} {fi:FI} {ro ro':Option Nat} {c:Code} {E:GE} {E':En} {H:GH} {K:X->GE->GH->Option Z} {r:Z} {Γ:aN} {Pu:Nat->Prop} {I:IH} {n0:DB} {D:List Deferred},
  sf.code bx fi ro c E H K=some r->au P hint sh Γ Pu H I->ER Γ Pu I E E'->J9 P hint bx fi c->Kc Γ ro ro'->Aq n0 I D->n0.n<=I.n->dE P hint sh K r Γ Pu H I n0 ro D (sl.code fi ro' c E' I D)
 loop:∀ {bx:Nat} {fi:FI} {ro ro':Option Nat} {c:Code} {d:Option Z} {E:GE} {E':En} {H:GH} {K:X->GE->GH->Option Z} {r:Z} {Γ:aN} {Pu:Nat->Prop} {I:IH} {n0:DB} {D:List Deferred},
  sf.loop bx (dA c) ro d E H K=some r->au P hint sh Γ Pu H I->ER Γ Pu I E E'->J9 P hint bx fi (.loop c)->Kc Γ ro ro'->Aq n0 I D->n0.n<=I.n->d=some r\/dE P hint sh K r Γ Pu H I n0 ro D (aK P sl fi ro' (.loop c) E' I D)
theorem fy (l:DN) (d t:Nat) (v:TV):eT (mP l d v) t=if t=d then v else eT l t:=by
 induction l with
 |e=>
  simp only [mP,eT];by_cases h:t=d
  .subst h;simp
  .rw [if_neg h,gM (Ne.symm h)];rfl
 |c k u r ih=>
  simp only [mP];by_cases hk:k=d
  .subst hk
   simp only [Nat.beq_refl,zac,eT];by_cases h:t=k
   .subst h;simp
   .rw [if_neg h,gM (Ne.symm h)];rfl
  .rw [gM hk]
   simp only [zab,eT,ih];by_cases h:t=d
   .subst h;simp [gM hk]
   grind
theorem ER.Og {E:GE} {E':En} (h:ER Γ Pu I E E') (d:Nat) {t:TV} {v:Value} (hv:GR Γ Pu I t v) (fi:FI):ER Γ Pu I (cO fi d t E) (sH fi d v E'):=by
 unfold cO sH;cases cls fi d with
 |out=>exact h
 |loc=>
  intro k;refine ⟨?_,(h k).2⟩
  show GR Γ Pu I (eT (mP E.loc d t) k) (lk (Iv.Og E'.loc d v) k)
  rw [fy,uv];split
  .exact hv
  .exact (h k).1
 |tmp=>
  intro k;refine ⟨(h k).1,?_⟩
  show GR Γ Pu I (eT (.c d t E.tmp) k) (lk (.c d v E'.tmp) k)
  simp only [eT,lk];cases Nat.beq d k
  .exact (h k).2
  .exact hv
theorem ER.M7 {E:GE} {E':En} (h:ER Γ Pu I E E') (d:Nat) (fi:FI) {t:TV} (hv:GR Γ Pu I t (ft fi E' d)):ER Γ Pu I (cO fi d t E) E':=by
 unfold cO;unfold ft at hv;cases hc:cls fi d with
 |out=>exact h
 |loc=>
  rw [hc] at hv;intro k;refine ⟨?_,(h k).2⟩
  show GR Γ Pu I (eT (mP E.loc d t) k) (lk E'.loc k)
  rw [fy];split
  .grind
  .exact (h k).1
 |tmp=>
  rw [hc] at hv;intro k;refine ⟨(h k).1,?_⟩
  show GR Γ Pu I (eT (.c d t E.tmp) k) (lk E'.tmp k)
  simp only [eT];cases hb:Nat.beq d k
  .exact (h k).2
  simp_all
theorem ER.put {E:GE} {E':En} (h:ER Γ Pu I E E') (fi:FI) (d:Option Tmp) {t:TV} {v:Value} (hv:GR Γ Pu I t v):ER Γ Pu I (c8 fi E d t) (dT fi E' d v):=by
 cases d with
 |none=>exact h
 |some d=>exact h.Og d hv fi
theorem ER.reset {E:GE} {E':En} (h:ER Γ Pu I E E'):ER Γ Pu I E.reset E'.reset:=fun t=>⟨(h t).1,.undef _⟩
theorem ER.args {l:List TV} {l':List Value} (h:br Γ Pu I l l'):ER Γ Pu I ⟨C3 0 l,.e⟩ (mK l'):=by
 have:∀ (i:Nat) (l:List TV) (l':List Value),br Γ Pu I l l'->∀ t,GR Γ Pu I (eT (C3 i l) t) (lk (uR i l') t):=by
  intro i l
  induction l generalizing i with
  |nil=>intro l' h t;cases h;exact .undef _
  |cons a l ih=>
   intro l' h t;cases h with |cons x y=>
   simp only [C3,uR,eT,lk]
   grind
 exact fun t=>⟨this 0 l l' h t,.undef _⟩
theorem ER.kP (fi:FI):∀ {ps:List Tmp} {l:List TV} {l':List Value} {E:GE} {E':En},ER Γ Pu I E E'->br Γ Pu I l l'->ER Γ Pu I (uG fi ps l E) (Iv.kP fi ps l' E'):=by
 intro ps
 induction ps with
 |nil=>intro l l' E E' h _;cases l<;>cases l'<;>exact h
 |cons p ps ih=>
  intro l l' E E' h hr;cases hr with
  |nil=>exact h
  |cons a b=>exact ih (h.Og p a fi) b
theorem br.map {ρ:Operand->TV} {ρ':Operand->Value} (h:∀ x,GR Γ Pu I (ρ x) (ρ' x)):∀ l:List Operand,br Γ Pu I (l.map ρ) (l.map ρ'):=by
 intro l
 induction l with
 |nil=>exact .nil
 |cons a l ih=>exact .cons (h a) ih
theorem dW.map {ρ:Operand->TV} {ρ':Operand->Value} (h:∀ x,GR Γ Pu I (ρ x) (ρ' x)) (o:Option Operand):dW Γ Pu I (o.map ρ) (o.map ρ'):=by
 cases o with
 |none=>exact .none
 |some a=>exact .some (h a)
variable {K:TV->GH->Option Z} {sf:fD Z} {self:Self}
theorem Aq.nil (n:Nat) (D:List Deferred) (I:IH):Aq ⟨n,D⟩ I D:=⟨[],List.nodup_nil,rfl,fun r h=>by cases h⟩
theorem Jh (hs:au P hint sh Γ Pu H I) (ok:ej P hint sh sf self) {l b:Nat} {loc:Loc} {args:List TV} {args':List Value} (h:DG sf l args H K=some r) (hl:Γ l=some loc) (hp:loc.pos=some (b,0)) (ha:br Γ Pu I args args'):
  Good P hint sh K r Γ Pu H I (fT self b args' I):=by
 unfold DG at h;split at h
 .rename_i bx pd fi E ps eo body hg
  replace h:=ad h;obtain ⟨hb,h⟩:=h;obtain ⟨l',hl',ho⟩:=hs.obj _ _ hg;cases hl.symm.trans hl';obtain ⟨b',E',hp',hro,hgb,hE,fo,qs,hi0,_⟩:=ho;have hi1:=hi0.sub (.eo (.refl _));have hi2:=hi0.sub (.body (.refl _));cases hp.symm.trans hp';have hor:Kc Γ (some l) (some b):= .inr ⟨l,b,loc,rfl,rfl,hl,hp⟩;obtain ⟨x,E1,H1,Γ1,Pu1,E1',I1,D1,k1,k2,k3,k4,k5,k6,k7⟩:=ok.code h hs (hE.kP fi ha) hi1 hor (Aq.nil I.n [] I) (zal _);have hD:D1= []:=k7 rfl;subst hD;have hlen:args'.length==ps.length:=by rw [ha.length];simpa using beq_true hb
  cases x with
  |exit id=>cases k1
  |ret=>cases k1
  |panic v=>cases k1
  |normal=>
   simp only at k1;split at k1
   .rename_i fid1 pd1 fi1 F1 ps1 asg1 body1 hg1
    obtain ⟨l1,hl1,ho1⟩:=k4.obj _ _ hg1;cases (k5.g _ _ hl).symm.trans hl1;obtain ⟨b1,F1',hp1,hro1,hgb1,hF1,hi3⟩:=ho1;cases hp.symm.trans hp1;have nb:∀ {Γ:aN} {Pu:Nat->Prop} {H:GH} {I:IH} (_:au P hint sh Γ Pu H I) {o:bu},H.get l=some o->o.cY=true->Γ l=some loc->∀ io,cp Γ Pu I Γ Pu (I.put b io):=fun s o hg hm hl io=>
     ⟨fun _ _ h=>h,fun _ h=>h,fun b' hb'=>by rw [IH.ag,if_neg (by rintro rfl;exact s.sep _ (.pos hg hm hl hp) hb')]⟩
    obtain ⟨s2,e2⟩:=k4.gS hg1 rfl hl1 hp (.loop fid1 .busy pd1 fi1 F1 ps1 asg1 body1) (.loop .busy pd1 fi1 F1' ps1 asg1 body1)
     ⟨b,F1',hp,hro,by rw [IH.ag,if_pos rfl],hF1.mono (nb k4 hg1 rfl hl1 _),hi3⟩
    have ke:=nb k4 hg1 rfl hl1 (.loop .busy pd1 fi1 F1' ps1 asg1 body1);obtain ⟨x,E2,H2,Γ2,Pu2,E2',I2,D2,j1,j2,j3,j4,j5,j6,j7⟩:=ok.code k1 s2 (k3.mono ke) hi2 (hor.mono k5.g) (Aq.nil _ [] _) (zal _);have hD:D2= []:=j7 rfl;subst hD;simp only at j1;split at j1
    .rename_i fid2 st2 pd2 fi2 F2 ps2 asg2 body2 hg2
     have hl2:=j5.g _ _ (k5.g _ _ hl);obtain ⟨l2,hl2',ho2⟩:=j4.obj _ _ hg2;cases hl2.symm.trans hl2';obtain ⟨b2,F2',hp2,hro2,hgb2,hF2,hi5⟩:=ho2;cases hp.symm.trans hp2;have hall:=Ex.trans hs k4 k5 (Ex.trans k4 s2 e2 j5)
     have fin:∀ (st:LoopState) (pd:Option Code),au P hint sh Γ2 Pu2 (H2.put l (.loop fid2 st pd fi2 F2 ps2 asg2 body2)) (I2.put b (.loop st pd fi2 F2' ps2 asg2 body2))/\
       Ex (bk Γ H I) Γ Pu H I Γ2 Pu2 (H2.put l (.loop fid2 st pd fi2 F2 ps2 asg2 body2)) (I2.put b (.loop st pd fi2 F2' ps2 asg2 body2)):=by
      intro st pd
      obtain ⟨s3,e3⟩:=j4.gS hg2 rfl hl2 hp (.loop fid2 st pd fi2 F2 ps2 asg2 body2) (.loop st pd fi2 F2' ps2 asg2 body2)
       ⟨b,F2',hp,hro,by rw [IH.ag,if_pos rfl],hF2.mono (nb j4 hg2 rfl hl2 _),hi5⟩
      exact ⟨s3,Ex.trans hs j4 hall e3⟩
     have hcond:(decide (ep<=b) &&args'.length==ps.length)=true:=by simp [hro];simpa using hlen
     cases x with
     |normal=>
      obtain ⟨a,c⟩:=fin .ready none;have hev:fT self b args' I=some (.bool true,I2.put b (.loop .ready none fi2 F2' ps2 asg2 body2)):=by
       simp only [fT,hgb];rw [if_pos hcond,k2];simp only [hgb1];rw [j2];simp only [hgb2]
      rw [hev];exact ⟨_,_,_,_,_,_,j1,rfl,.bool true,a,c⟩
     |ret=>
      obtain ⟨a,c⟩:=fin .done (some .ret);have hev:fT self b args' I=some (.bool false,I2.put b (.loop .done (some .ret) fi2 F2' ps2 asg2 body2)):=by
       simp only [fT,hgb];rw [if_pos hcond,k2];simp only [hgb1];rw [j2];simp only [hgb2]
      rw [hev];exact ⟨_,_,_,_,_,_,j1,rfl,.bool false,a,c⟩
     |exit id=>
      obtain ⟨a,c⟩:=fin .done (some (.exit id));have hev:fT self b args' I=some (.bool false,I2.put b (.loop .done (some (.exit id)) fi2 F2' ps2 asg2 body2)):=by
       simp only [fT,hgb];rw [if_pos hcond,k2];simp only [hgb1];rw [j2];simp only [hgb2]
      rw [hev];exact ⟨_,_,_,_,_,_,j1,rfl,.bool false,a,c⟩
     |panic v=>cases j1
    .cases j1
   .cases k1
 .cases h
theorem Good.Mu {run:Option (Value×IH)} (h:Good P hint sh K r Γ Pu H I run):∃ v I1,run=some (v,I1)/\Good P hint sh K r Γ Pu H I (some (v,I1)):=by
 obtain ⟨t,H1,Γ1,Pu1,v,I1,a,b,c⟩:=h;exact ⟨v,I1,b,t,H1,Γ1,Pu1,v,I1,a,rfl,c⟩
theorem Fb (hs:au P hint sh Γ Pu H I) (ok:ej P hint sh sf self) {f:FuncId} {a c:List Value} {args:List TV} {args':List Value} (h:zW P sf H f args K=some r) (ha:br Γ Pu I args (a++args'++c)):
  Good P hint sh K r Γ Pu H I (an (nO (ij P self I (.func (.func f) ⟨a⟩ ⟨c⟩) args')))\/Pn P hint sh K r Γ Pu H I (nO (ij P self I (.func (.func f) ⟨a⟩ ⟨c⟩) args')):=by
 unfold zW at h;unfold ij;split at h
 .rename_i fn hfn
  simp only [hfn];split at h
  .rename_i hb
   simp only [hb];obtain ⟨v,I1,e1,e2⟩:=(DD (P:=P) hs h ha).Mu;simp only [e1,nO,an];exact .inl e2
  .rename_i hb
   simp only [hb];rcases ok.call h hs ha with ⟨t,H1,Γ1,Pu1,v,I1,k1,k2,k3⟩ |⟨w,H1,Γ1,Pu1,I1,k1,k2,k3⟩
   .simp only [k2,nO,an]
    exact .inl ⟨t,H1,Γ1,Pu1,v,I1,k1,rfl,k3⟩
   .simp only [k2,nO]
    exact .inr ⟨w,H1,Γ1,Pu1,I1,k1,rfl,k3⟩
 .cases h
theorem max_eq (x y:Int):(if y>x then y else x)=(bif aD x y then y else x):=by
 rw [fu]
 grind
theorem Bx {sh:bU} (hs:au P hint sh Γ Pu H I) {b:Builtin} {ts:Array TypeId} {ty:TypeId} {args:List TV} {args':List Value} (h:py dS P sh H b ts args K=some r) (ha:br Γ Pu I args args'):Good P hint sh K r Γ Pu H I (an (bj P I b ts ty args')):=by
 unfold py at h;split at h
 .cases ha with |cons x y=>cases y with |cons y z=>cases z;exact Bs hs h x y
 .cases ha with |cons x y=>
  cases y;split at h
  .rename_i t ht
   simp only [bj,ht];exact Mz hs h x
  .cases h
 .exact uE (g:=Builtin.max2) hs (fun k n k' m=>by simp only [Builtin.max2,max_eq]) (fun x rest e=>by rw [e];rfl) h ha
 .exact uE (g:=Builtin.min2) hs (fun k n k' m=>by
   simp only [Builtin.min2];have:(if m<n then m else n)=(bif aD m n then m else n):=by
    rw [fu];by_cases h:m<n
    .grind
    .grind
   rw [this]) (fun x rest e=>by rw [e];rfl) h ha
 .cases ha with |cons x y=>cases y;exact wI hs h x
 .replace h:=ad h;obtain ⟨hb,h⟩:=h
  cases ha with |cons x y=>cases y with |cons y z=>cases z;exact Ba hs h x y hb
 .cases h
theorem ET {sh:bU} (hs:au P hint sh Γ Pu H I) (ok:ej P hint sh sf self) {ρ:Operand->TV} {ρ':Operand->Value} (hρ:∀ x,GR Γ Pu I (ρ x) (ρ' x)) {c:Call} {ty:TypeId} (h:tE dS P sh sf ρ H c K=some r):Good P hint sh K r Γ Pu H I (an (dt P self ρ' I c ty))\/((∃ x,c.callee= .value x)/\Pn P hint sh K r Γ Pu H I (dt P self ρ' I c ty)):=by
 unfold tE at h;unfold dt;have hargs:=br.map hρ c.args.toList;split at h
 .rename_i b hc
  simp only [hc];exact .inl (Bx hs h hargs)
 .rename_i f hc
  simp only [hc];have hf:=hρ f;split at h
  .rename_i l hfe
   rw [hfe] at hf;generalize ρ' f=fv at hf;cases hf with |mo hl hp=>
   obtain ⟨v,I1,e1,e2⟩:=(Jh hs ok h hl hp hargs).Mu;simp only [e1,an];exact .inl e2
  .rename_i fn first cap hfe
   rw [hfe] at hf;generalize ρ' f=fv at hf;cases hf with |fn a b=>
   exact (Fb hs ok h ((a.append hargs).append b)).imp id fun h=>⟨⟨_,rfl⟩,h⟩
  .cases h
 .cases h
theorem Mi {op:BinOp} {t:TypeId} {x y:Operand} {a b:TV} {a' b':Value} {q:Bool} (h:ND P op t x y a b=some q) (ha:GR Γ Pu I a a') (hb:GR Γ Pu I b b'):an (aX P I op t x y a' b')=some (.bool q,I):=by
 unfold ND at h;split at h
 .rename_i ms hu
  cases ha;cases hb;replace h:=ad h;obtain ⟨hc,h⟩:=h;have ne:dV P I t .nilIface .nilIface=none:=by unfold dV;rw [hu]
  have guard:∀ op,eqGuard op t x y .nilIface .nilIface=pure ():=by
   intro op;cases x with
   |const c=>exact eqGuard_nil_constL ..
   |_=>cases y with
    |const c=>exact eqGuard_nil_constR ..
    |_=>cases hc
  have he:bR P (Op.equal t .nilIface .nilIface)=some true:=by
   unfold Op.equal
   show bR P (Op.equalIn (9999+1) t .nilIface .nilIface)=_
   unfold Op.equalIn;rw [aI _ _ _ (bn hu)];rfl
  have go:∀ (neg:Bool),bR P (do eqGuard (if neg then .neq else .eql) t x y .nilIface .nilIface;Go.binOp (if neg then .neq else .eql) t .nilIface .nilIface)=some (.bool (if neg then false else true)):=by
   intro neg;rw [guard,aI _ _ _ (IE P ())];cases neg with
   |false=>simp only [Bool.false_eq_true,if_false];unfold Go.binOp;exact (aI P _ _ he).trans rfl
   |true=>simp only [if_true];unfold Go.binOp;exact (aI P _ _ he).trans rfl
  split at h
  .cases h
   have g:=go false;simp only [Bool.false_eq_true,if_false] at g;simp only [aX,bP,ne,free,aU,zai,if_true,Bool.false_eq_true,if_false,g,an]
  .cases h
   have g:=go true;simp only [if_true] at g;simp only [aX,bP,ne,free,aU,zai,if_true,g,an]
  .cases h
 .rename_i ms hu
  cases ha;cases hb;have ne:∀ t' v',dV P I t (.iface t' v') .nilIface=some false:=fun t' v'=>by unfold dV;rw [hu]
  split at h
  .cases h
   simp only [aX,bP,ne,Bool.false_eq_true,if_false,an]
  .cases h
   simp only [aX,bP,ne,if_true,Bool.not_false,an]
  .cases h
 .cases h
theorem wM (hs:au P hint sh Γ Pu H I) {t:TypeId} {x:TV} {x':Value} (h:nB P H t x K=some r) (hx:GR Γ Pu I x x'):Good P hint sh K r Γ Pu H I (an (e8 P I t x')):=by
 unfold nB at h;cases h
theorem tW (hs:au P hint sh Γ Pu H I) {x:TV} {x':Value} {a:TypeId} {q:Bool} (h:ld P H x a q K=some r) (hx:GR Γ Pu I x x'):Good P hint sh K r Γ Pu H I (an (fE P I x' a q)):=by
 unfold ld at h;cases h
theorem JS (hs:au P hint sh Γ Pu H I) {x:TV} {x':Value} (h:FB H x K=some r) (hx:GR Γ Pu I x x'):Pn P hint sh K r Γ Pu H I (tH I x'):=by
 unfold FB at h;cases h
theorem FP {o:Oper} {c:Call} {x:Operand} (hx:c.callee= .value x) (ho:o.op= .call c):kindOf P o= .chain:=by
 obtain ⟨cal,as,ts⟩:=c;simp only at hx;subst hx;simp only [kindOf,ho]
theorem yM {α:Type} {t:TV} {v:Value} {p:Value->α} {k:α} (h:GR Γ Pu I t v):LM t p k=k:=by
 cases t<;>first |rfl |cases h
theorem zI {sh:bU} (hs:au P hint sh Γ Pu H I) (ok:ej P hint sh sf self) {ρ:Operand->TV} {ρ':Operand->Value} (hρ:∀ x,GR Γ Pu I (ρ x) (ρ' x)) {o:Oper} (h:jH dS P sh sf ρ H o K=some r):Good P hint sh K r Γ Pu H I (an (aG P self ρ' I o))\/(kindOf P o= .chain/\Pn P hint sh K r Γ Pu H I (aG P self ρ' I o)):=by
 unfold jH at h;unfold aG;split at h<;>(rename_i ho;try simp only [ho])
 .exact .inl (Good.same hs h (hρ _))
 .exact .inl (Good.same hs h (hρ _))
 .exact .inl (Kh hs h (hρ _) (hρ _) (hρ _))
 .exact .inl (Ik hs h)
 .exact .inl (OM hs h (hρ _))
 .exact .inl (IF hs h (D7.map hρ _))
 .exact .inl (sS hs h (D7.map hρ _))
 .exact .inl (JC hs h (hρ _))
 .exact .inl (EB hs h (hρ _) (hρ _))
 .exact .inl (O7 hs h (hρ _))
 .refine .inl ?_
  split at h
  .rename_i hq
   rw [Mi hq (hρ _) (hρ _)];exact Good.same hs h (.bool _)
  .exact PQ hs h (hρ _) (hρ _)
 .exact .inl (R5 hs h (hρ _))
 .exact .inl (C8 hs h (hρ _))
 .simp only [fW,if_true,an]
  exact .inl <|Good.same hs h (.fn (br.map hρ _) (br.map hρ _))
 .exact .inl <|uL hs h (hρ _) (hρ _) (fun he=>by
   rename_i t l c;unfold F6 at he;split at he
   .rw [beq_true he]
   .cases he)
 .exact .inl (Iz hs h (hρ _) (dW.map hρ _) (dW.map hρ _) (dW.map hρ _))
 .exact .inl (wo hs h (hρ _))
 .exact .inl (Io hs h (hρ _))
 .exact .inl (uJ hs h (hρ _) (LH (hρ _)))
 .exact .inl (JT hs h (hρ _) (LH (hρ _)))
 .exact .inl (J1 hs h (hρ _))
 .exact .inl (zS hs h (dW.map hρ _))
 .exact .inl (C9 hs h (hρ _) (hρ _))
 .exact .inl (rJ hs h (hρ _) (hρ _) (hρ _))
 .exact .inl (rJ hs h (hρ _) (hρ _) (hρ _))
 .exact .inl (Mq hs h (hρ _))
 .exact .inl (AQ hs h (hρ _))
 .exact .inl (wM hs h (hρ _))
 .exact .inl (tW hs h (hρ _))
 .exact .inr ⟨by simp only [kindOf,ho],JS hs h (hρ _)⟩
 .exact (ET hs ok hρ h).imp id fun ⟨⟨x,hx⟩,h⟩=>⟨FP hx ho,h⟩
 .cases h
theorem GL {sh:bU} (hs:au P hint sh Γ Pu H I) (ok:ej P hint sh sf self) {ρ:Operand->TV} {ρ':Operand->Value} (hρ:∀ x,GR Γ Pu I (ρ x) (ρ' x)) {o:Oper} (hk:kindOf P o≠ .chain) (h:jH dS P sh sf ρ H o K=some r):Good P hint sh K r Γ Pu H I (an (aG P self ρ' I o)):=
 (zI hs ok hρ h).elim id fun h=>absurd h.1 hk
end
end Go.Gv
