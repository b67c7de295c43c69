/- The pure evaluator's runs are the ideal one's: operations, regions, calls of yield. -/
import Derived.Test.YtdelfjdjenlaiaaGreatDoorGvNestX
import Derived.Test.YtdelfjdjenlaiaaGreatDoorGvMapN
set_option linter.unusedSimpArgs false
set_option linter.unusedVariables false
namespace Go.Gv
open Go Go.Iv
structure DB where
 n:Nat
 D:List Deferred
def Ab (n0:DB) (I:IH) (D:List Deferred):Prop:=
 ∃ ds:List Nat,ds.Nodup/\D=ds.map (fun r=>({ target:= .collected r,args:=#[] }:Deferred))++n0.D/\∀ r∈ds,dO<=r/\n0.n<=r/\I.get r=some (.mf true)
def Oo (Γ:bc) (ro ro':Option Nat):Prop:=
 (ro=none/\ro'=none)∨∃ l b loc,ro=some l/\ro'=some b/\Γ l=some loc/\loc.pos=some (b,0)
section
variable {β:Type} {P:Program} {hint:Hint} {sh:cA} {O:Nat->Prop} {Γ Γ1:bc} {Pu Pu1:Nat->Prop} {H H1:GH} {I I1 I2:IH} {r:β}
theorem aw.CH (hs:aw P hint sh Γ Pu H I) {b:Nat} {o:Bool} (hb:I.get b=some (.mf o)):¬ bx Γ H I b:=by
 rintro ⟨id,ob,l,hg,hm,hl,hat⟩;obtain ⟨l',hl',ho⟩:=hs.obj id ob hg;cases hl.symm.trans hl';rcases hat with ⟨x,hp⟩ |hat
 ·cases ob with
  |cells et cs w=>obtain ⟨b',vs,fz,ex,sd,hp',hb',_⟩:=ho;cases hp.symm.trans hp';rw [hb] at hb';cases hb'
  |arr et e xs w fz em=>obtain ⟨vs,f,ex,sd,h⟩:=jb.get ho hp;rw [hb] at h;cases h
  |nest et e no net ne xs em ho'=>
   obtain ⟨_,_,_,_,h1 |⟨b',o,vs,f,ex,hp',_,hb',_⟩⟩:=ho
   ·rw [h1.1] at hp;cases hp
   ·cases hp.symm.trans hp';rw [hb] at hb';cases hb'
  |iter s pos=>obtain ⟨b',hp',_,hb'⟩:=ho;cases hp.symm.trans hp';rw [hb] at hb';cases hb'
  |map kt gk ge k e xs em=>
   obtain ⟨_,⟨h1,_⟩ |⟨b',es,ck,hp',_,_,hb',_⟩⟩:=ho
   ·rw [h1] at hp;cases hp
   ·cases hp.symm.trans hp';rw [hb] at hb';cases hb'
  |gT kt gk k net ne xs ho'=>obtain ⟨_,_,_,b',es,ck,hp',_,hb',_⟩:=ho;cases hp.symm.trans hp';rw [hb] at hb';cases hb'
  |loop bO st pd fi E ps dZ body=>obtain ⟨b',E',hp',_,hb',_⟩:=ho;cases hp.symm.trans hp';rw [hb] at hb';cases hb'
 ·cases ob with
  |nest et e no net ne xs em ho'=>
   obtain ⟨i,hi⟩:=hat;obtain ⟨x,v,l',o',_,h2,_,h4⟩:=bH.at ho hi;obtain ⟨vs,f,ex,sd,h⟩:=h2.get h4;rw [hb] at h;cases h
  |gT kt gk k net ne xs ho'=>
   obtain ⟨i,hi⟩:=hat;obtain ⟨x,v,l',o',_,h2,_,h4⟩:=jO.at ho hi;obtain ⟨vs,f,ex,sd,h⟩:=h2.get h4;rw [hb] at h;cases h
  |_=>cases hat
theorem Ab.ex (hs:aw P hint sh Γ Pu H I) (he:Ex (bx Γ H I) Γ Pu H I Γ1 Pu1 H1 I1) {n0:DB} {D:List Deferred} (h:Ab n0 I D):Ab n0 I1 D:=by
 obtain ⟨ds,h1,h2,h3⟩:=h;refine ⟨ds,h1,h2,fun r hr=>?_⟩;obtain ⟨a,b,c⟩:=h3 r hr;exact ⟨a,b,(he.cI r (hs.lt c) (hs.CH c)).trans c⟩
theorem Oo.mono (h:∀ id l,Γ id=some l->Γ1 id=some l) {ro ro':Option Nat} (hr:Oo Γ ro ro'):Oo Γ1 ro ro':=by
 rcases hr with h0 |⟨l,b,loc,h1,h2,h3,h4⟩
 ·exact .inl h0
 ·exact .inr ⟨l,b,loc,h1,h2,h _ _ h3,h4⟩
def eQ (P:Program) (hint:Hint) (sh:cA) (K:TV->GH->Option β) (r:β) (Γ:bc) (Pu:Nat->Prop) (H:GH) (I:IH) (run:Option (Iv.End×IH)):Prop:=
 (∃ t H1 Γ1 Pu1 v I1,K t H1=some r/\run=some (.returned v,I1)/\GR Γ1 Pu1 I1 t v/\aw P hint sh Γ1 Pu1 H1 I1/\Ex (bx Γ H I) Γ Pu H I Γ1 Pu1 H1 I1)∨
 (∃ w H1 Γ1 Pu1 I1,K (.H5 w) H1=some r/\run=some (.panicked w,I1)/\aw P hint sh Γ1 Pu1 H1 I1/\Ex (bx Γ H I) Γ Pu H I Γ1 Pu1 H1 I1)
def Ti (P:Program) (hint:Hint) (sh:cA) (K:TV->GH->Option β) (r:β) (Γ:bc) (Pu:Nat->Prop) (H:GH) (I:IH) (run:Option ag):Prop:=
 ∃ w H1 Γ1 Pu1 I1,K (.H5 w) H1=some r/\run=some (.panic w I1)/\aw P hint sh Γ1 Pu1 H1 I1/\Ex (bx Γ H I) Γ Pu H I Γ1 Pu1 H1 I1
def dQ (P:Program) (hint:Hint) (sh:cA) (K:X->GE->GH->Option β) (r:β) (Γ:bc) (Pu:Nat->Prop) (H:GH) (I:IH) (n0:DB) (ro:Option Nat) (D:List Deferred) (run:eS):Prop:=
 ∃ x E1 H1 Γ1 Pu1 E1' I1 D1,K x E1 H1=some r/\run=some (x,E1',I1,D1)/\ER Γ1 Pu1 I1 E1 E1'/\aw P hint sh Γ1 Pu1 H1 I1/\Ex (bx Γ H I) Γ Pu H I Γ1 Pu1 H1 I1/\Ab n0 I1 D1/\(ro.isSome=true->D1=D)
structure dv (P:Program) (hint:Hint) (sh:cA) (sf:eF β) (sl:Self):Prop where
 call:∀ {f:FuncId} {args:List TV} {H:GH} {K:TV->GH->Option β} {r:β} {Γ:bc} {Pu:Nat->Prop} {I:IH} {args':List Value},sf.call f args H K=some r->aw P hint sh Γ Pu H I->bK Γ Pu I args args'->eQ P hint sh K r Γ Pu H I (sl.call f args' I)
 code:∀ {bO:Nat} {fi:FI} {ro ro':Option Nat} {c:Code} {E:GE} {E':En} {H:GH} {K:X->GE->GH->Option β} {r:β} {Γ:bc} {Pu:Nat->Prop} {I:IH} {n0:DB} {D:List Deferred},
  sf.code bO fi ro c E H K=some r->aw P hint sh Γ Pu H I->ER Γ Pu I E E'->Oj P hint bO fi c->Oo Γ ro ro'->Ab n0 I D->n0.n<=I.n->dQ P hint sh K r Γ Pu H I n0 ro D (sl.code fi ro' c E' I D)
 loop:∀ {bO:Nat} {fi:FI} {ro ro':Option Nat} {c:Code} {d:Option β} {E:GE} {E':En} {H:GH} {K:X->GE->GH->Option β} {r:β} {Γ:bc} {Pu:Nat->Prop} {I:IH} {n0:DB} {D:List Deferred},
  sf.loop bO (dL c) ro d E H K=some r->aw P hint sh Γ Pu H I->ER Γ Pu I E E'->Oj P hint bO fi (.loop c)->Oo Γ ro ro'->Ab n0 I D->n0.n<=I.n->d=some r∨dQ P hint sh K r Γ Pu H I n0 ro D (aA P sl fi ro' (.loop c) E' I D)
theorem fP (l:ID) (d t:Nat) (v:TV):eX (nk l d v) t=if t=d then v else eX l t:=by
 induction l with
 |e=>
  simp only [nk,eX];by_cases h:t=d
  ·subst h;simp
  ·rw [if_neg h,fY (Ne.symm h)];rfl
 |c k u r ih=>
  simp only [nk];by_cases hk:k=d
  ·subst hk
   simp only [Nat.beq_refl,zac,eX];by_cases h:t=k
   ·subst h;simp
   ·rw [if_neg h,fY (Ne.symm h)];rfl
  ·rw [fY hk]
   simp only [zab,eX,ih];by_cases h:t=d
   ·subst h;simp [fY hk]
   ·rw [if_neg h,if_neg h]
theorem ER.My {E:GE} {E':En} (h:ER Γ Pu I E E') (d:Nat) {t:TV} {v:Value} (hv:GR Γ Pu I t v) (fi:FI):ER Γ Pu I (dc fi d t E) (nq fi d v E'):=by
 unfold dc nq;cases cls fi d with
 |out=>exact h
 |loc=>
  intro k;refine ⟨?_,(h k).2⟩
  show GR Γ Pu I (eX (nk E.loc d t) k) (lk (Iv.My E'.loc d v) k)
  rw [fP,xY];split
  ·exact hv
  ·exact (h k).1
 |tmp=>
  intro k;refine ⟨(h k).1,?_⟩
  show GR Γ Pu I (eX (.c d t E.tmp) k) (lk (.c d v E'.tmp) k)
  simp only [eX,lk];cases Nat.beq d k
  ·exact (h k).2
  ·exact hv
theorem ER.Fa {E:GE} {E':En} (h:ER Γ Pu I E E') (d:Nat) (fi:FI) {t:TV} (hv:GR Γ Pu I t (fw fi E' d)):ER Γ Pu I (dc fi d t E) E':=by
 unfold dc;unfold fw at hv;cases hc:cls fi d with
 |out=>exact h
 |loc=>
  rw [hc] at hv;intro k;refine ⟨?_,(h k).2⟩
  show GR Γ Pu I (eX (nk E.loc d t) k) (lk E'.loc k)
  rw [fP];split
  ·rename_i e;subst e;exact hv
  ·exact (h k).1
 |tmp=>
  rw [hc] at hv;intro k;refine ⟨(h k).1,?_⟩
  show GR Γ Pu I (eX (.c d t E.tmp) k) (lk E'.tmp k)
  simp only [eX];cases hb:Nat.beq d k
  ·exact (h k).2
  ·rw [←Nat.eq_of_beq_eq_true hb];exact hv
theorem ER.put {E:GE} {E':En} (h:ER Γ Pu I E E') (fi:FI) (d:Option Tmp) {t:TV} {v:Value} (hv:GR Γ Pu I t v):ER Γ Pu I (cC fi E d t) (c8 fi E' d v):=by
 cases d with
 |none=>exact h
 |some d=>exact h.My d hv fi
theorem ER.reset {E:GE} {E':En} (h:ER Γ Pu I E E'):ER Γ Pu I E.reset E'.reset:=fun t=>⟨(h t).1,.undef _⟩
theorem ER.args {l:List TV} {l':List Value} (h:bK Γ Pu I l l'):ER Γ Pu I ⟨vN 0 l,.e⟩ (eA l'):=by
 have:∀ (i:Nat) (l:List TV) (l':List Value),bK Γ Pu I l l'->∀ t,GR Γ Pu I (eX (vN i l) t) (lk (vL i l') t):=by
  intro i l
  induction l generalizing i with
  |nil=>intro l' h t;cases h;exact .undef _
  |cons a l ih=>
   intro l' h t;cases h with |cons x y=>
   simp only [vN,vL,eX,lk];cases Nat.beq i t
   ·exact ih (i+1) _ y t
   ·exact x
 exact fun t=>⟨this 0 l l' h t,.undef _⟩
theorem ER.ky (fi:FI):∀ {ps:List Tmp} {l:List TV} {l':List Value} {E:GE} {E':En},ER Γ Pu I E E'->bK Γ Pu I l l'->ER Γ Pu I (wI fi ps l E) (Iv.ky fi ps l' E'):=by
 intro ps
 induction ps with
 |nil=>intro l l' E E' h _;cases l<;>cases l'<;>exact h
 |cons p ps ih=>
  intro l l' E E' h hr;cases hr with
  |nil=>exact h
  |cons a b=>exact ih (h.My p a fi) b
theorem bK.map {Z:Operand->TV} {Z':Operand->Value} (h:∀ x,GR Γ Pu I (Z x) (Z' x)):∀ l:List Operand,bK Γ Pu I (l.map Z) (l.map Z'):=by
 intro l
 induction l with
 |nil=>exact .nil
 |cons a l ih=>exact .cons (h a) ih
theorem eh.map {Z:Operand->TV} {Z':Operand->Value} (h:∀ x,GR Γ Pu I (Z x) (Z' x)) (o:Option Operand):eh Γ Pu I (o.map Z) (o.map Z'):=by
 cases o with
 |none=>exact .none
 |some a=>exact .some (h a)
variable {K:TV->GH->Option β} {sf:eF β} {self:Self}
theorem Ab.nil (n:Nat) (D:List Deferred) (I:IH):Ab ⟨n,D⟩ I D:=⟨[],List.nodup_nil,rfl,fun r h=>by cases h⟩
theorem Ma (hs:aw P hint sh Γ Pu H I) (ok:dv P hint sh sf self) {l b:Nat} {loc:Loc} {args:List TV} {args':List Value} (h:Jd sf l args H K=some r) (hl:Γ l=some loc) (hp:loc.pos=some (b,0)) (ha:bK Γ Pu I args args'):
  Good P hint sh K r Γ Pu H I (fM self b args' I):=by
 unfold Jd at h;split at h
 ·rename_i bO pd fi E ps dZ body hg
  replace h:=ae h;obtain ⟨hb,h⟩:=h;obtain ⟨l',hl',ho⟩:=hs.obj _ _ hg;cases hl.symm.trans hl';obtain ⟨b',E',hp',hro,hgb,hE,fo,qs,hi0,_⟩:=ho;have hi1:=hi0.sub (.dZ (.refl _));have hi2:=hi0.sub (.body (.refl _));cases hp.symm.trans hp';have hor:Oo Γ (some l) (some b):= .inr ⟨l,b,loc,rfl,rfl,hl,hp⟩;obtain ⟨x,E1,H1,Γ1,Pu1,E1',I1,D1,k1,k2,k3,k4,k5,k6,k7⟩:=ok.code h hs (hE.ky fi ha) hi1 hor (Ab.nil I.n [] I) (zai _);have hD:D1= []:=k7 rfl;subst hD;have hlen:args'.length==ps.length:=by rw [ha.length];simpa using beq_true hb
  cases x with
  |exit id=>cases k1
  |ret=>cases k1
  |panic v=>cases k1
  |normal=>
   simp only at k1;split at k1
   ·rename_i fid1 pd1 fi1 F1 ps1 asg1 body1 hg1
    obtain ⟨l1,hl1,ho1⟩:=k4.obj _ _ hg1;cases (k5.g _ _ hl).symm.trans hl1;obtain ⟨b1,F1',hp1,hro1,hgb1,hF1,hi3⟩:=ho1;cases hp.symm.trans hp1;have nb:∀ {Γ:bc} {Pu:Nat->Prop} {H:GH} {I:IH} (_:aw P hint sh Γ Pu H I) {o:bL},H.get l=some o->o.dh=true->Γ l=some loc->∀ io,cH Γ Pu I Γ Pu (I.put b io):=fun s o hg hm hl io=>
     ⟨fun _ _ h=>h,fun _ h=>h,fun b' hb'=>by rw [IH.ah,if_neg (by rintro rfl;exact s.sep _ (.pos hg hm hl hp) hb')]⟩
    obtain ⟨s2,e2⟩:=k4.hX hg1 rfl hl1 hp (.loop fid1 .busy pd1 fi1 F1 ps1 asg1 body1) (.loop .busy pd1 fi1 F1' ps1 asg1 body1)
     ⟨b,F1',hp,hro,by rw [IH.ah,if_pos rfl],hF1.mono (nb k4 hg1 rfl hl1 _),hi3⟩
    have ke:=nb k4 hg1 rfl hl1 (.loop .busy pd1 fi1 F1' ps1 asg1 body1);obtain ⟨x,E2,H2,Γ2,Pu2,E2',I2,D2,j1,j2,j3,j4,j5,j6,j7⟩:=ok.code k1 s2 (k3.mono ke) hi2 (hor.mono k5.g) (Ab.nil _ [] _) (zai _);have hD:D2= []:=j7 rfl;subst hD;simp only at j1;split at j1
    ·rename_i fid2 st2 pd2 fi2 F2 ps2 asg2 body2 hg2
     have hl2:=j5.g _ _ (k5.g _ _ hl);obtain ⟨l2,hl2',ho2⟩:=j4.obj _ _ hg2;cases hl2.symm.trans hl2';obtain ⟨b2,F2',hp2,hro2,hgb2,hF2,hi5⟩:=ho2;cases hp.symm.trans hp2;have hall:=Ex.trans hs k4 k5 (Ex.trans k4 s2 e2 j5)
     have fin:∀ (st:LoopState) (pd:Option Code),aw P hint sh Γ2 Pu2 (H2.put l (.loop fid2 st pd fi2 F2 ps2 asg2 body2)) (I2.put b (.loop st pd fi2 F2' ps2 asg2 body2))/\
       Ex (bx Γ H I) Γ Pu H I Γ2 Pu2 (H2.put l (.loop fid2 st pd fi2 F2 ps2 asg2 body2)) (I2.put b (.loop st pd fi2 F2' ps2 asg2 body2)):=by
      intro st pd
      obtain ⟨s3,e3⟩:=j4.hX hg2 rfl hl2 hp (.loop fid2 st pd fi2 F2 ps2 asg2 body2) (.loop st pd fi2 F2' ps2 asg2 body2)
       ⟨b,F2',hp,hro,by rw [IH.ah,if_pos rfl],hF2.mono (nb j4 hg2 rfl hl2 _),hi5⟩
      exact ⟨s3,Ex.trans hs j4 hall e3⟩
     have hcond:(decide (dO<=b) &&args'.length==ps.length)=true:=by simp [hro];simpa using hlen
     cases x with
     |normal=>
      obtain ⟨a,c⟩:=fin .ready none;have hev:fM self b args' I=some (.bool true,I2.put b (.loop .ready none fi2 F2' ps2 asg2 body2)):=by
       simp only [fM,hgb];rw [if_pos hcond,k2];simp only [hgb1];rw [j2];simp only [hgb2]
      rw [hev];exact ⟨_,_,_,_,_,_,j1,rfl,.bool true,a,c⟩
     |ret=>
      obtain ⟨a,c⟩:=fin .done (some .ret);have hev:fM self b args' I=some (.bool false,I2.put b (.loop .done (some .ret) fi2 F2' ps2 asg2 body2)):=by
       simp only [fM,hgb];rw [if_pos hcond,k2];simp only [hgb1];rw [j2];simp only [hgb2]
      rw [hev];exact ⟨_,_,_,_,_,_,j1,rfl,.bool false,a,c⟩
     |exit id=>
      obtain ⟨a,c⟩:=fin .done (some (.exit id));have hev:fM self b args' I=some (.bool false,I2.put b (.loop .done (some (.exit id)) fi2 F2' ps2 asg2 body2)):=by
       simp only [fM,hgb];rw [if_pos hcond,k2];simp only [hgb1];rw [j2];simp only [hgb2]
      rw [hev];exact ⟨_,_,_,_,_,_,j1,rfl,.bool false,a,c⟩
     |panic v=>cases j1
    ·cases j1
   ·cases k1
 ·cases h
theorem Good.RL {run:Option (Value×IH)} (h:Good P hint sh K r Γ Pu H I run):∃ v I1,run=some (v,I1)/\Good P hint sh K r Γ Pu H I (some (v,I1)):=by
 obtain ⟨t,H1,Γ1,Pu1,v,I1,a,b,c⟩:=h;exact ⟨v,I1,b,t,H1,Γ1,Pu1,v,I1,a,rfl,c⟩
theorem I5 (hs:aw P hint sh Γ Pu H I) (ok:dv P hint sh sf self) {f:FuncId} {a c:List Value} {args:List TV} {args':List Value} (h:C4 P sf H f args K=some r) (ha:bK Γ Pu I args (a++args'++c)):
  Good P hint sh K r Γ Pu H I (aq (mo (gJ P self I (.func (.func f) ⟨a⟩ ⟨c⟩) args')))∨Ti P hint sh K r Γ Pu H I (mo (gJ P self I (.func (.func f) ⟨a⟩ ⟨c⟩) args')):=by
 unfold C4 at h;unfold gJ;split at h
 ·rename_i fn hfn
  simp only [hfn];split at h
  ·rename_i hb
   simp only [hb];obtain ⟨v,I1,e1,e2⟩:=(IB (P:=P) hs h ha).RL;simp only [e1,mo,aq];exact .inl e2
  ·rename_i hb
   simp only [hb];rcases ok.call h hs ha with ⟨t,H1,Γ1,Pu1,v,I1,k1,k2,k3⟩ |⟨w,H1,Γ1,Pu1,I1,k1,k2,k3⟩
   ·simp only [k2,mo,aq]
    exact .inl ⟨t,H1,Γ1,Pu1,v,I1,k1,rfl,k3⟩
   ·simp only [k2,mo]
    exact .inr ⟨w,H1,Γ1,Pu1,I1,k1,rfl,k3⟩
 ·cases h
theorem max_eq (x y:Int):(if y>x then y else x)=(bif aR x y then y else x):=by
 rw [mK];by_cases h:x<y
 ·rw [if_pos h];simp [h]
 ·rw [if_neg h];simp [h]
theorem EC {sh:cA} (hs:aw P hint sh Γ Pu H I) {b:Builtin} {ts:Array TypeId} {ty:TypeId} {args:List TV} {args':List Value} (h:pO dW P sh H b ts args K=some r) (ha:bK Γ Pu I args args'):Good P hint sh K r Γ Pu H I (aq (bk P I b ts ty args')):=by
 unfold pO at h;split at h
 ·cases ha with |cons x y=>cases y with |cons y z=>cases z;exact DD hs h x y
 ·cases ha with |cons x y=>
  cases y;split at h
  ·rename_i t ht
   simp only [bk,ht];exact QO hs h x
  ·cases h
 ·exact wA (g:=Builtin.max2) hs (fun k n k' m=>by simp only [Builtin.max2,max_eq]) (fun x rest e=>by rw [e];rfl) h ha
 ·exact wA (g:=Builtin.min2) hs (fun k n k' m=>by
   simp only [Builtin.min2];have:(if m<n then m else n)=(bif aR m n then m else n):=by
    rw [mK];by_cases h:m<n
    ·rw [if_pos h];simp [h]
    ·rw [if_neg h];simp [h]
   rw [this]) (fun x rest e=>by rw [e];rfl) h ha
 ·cases ha with |cons x y=>cases y;exact yZ hs h x
 ·replace h:=ae h;obtain ⟨hb,h⟩:=h
  cases ha with |cons x y=>cases y with |cons y z=>cases z;exact Gu hs h x y hb
 ·cases h
theorem HP {sh:cA} (hs:aw P hint sh Γ Pu H I) (ok:dv P hint sh sf self) {Z:Operand->TV} {Z':Operand->Value} (hρ:∀ x,GR Γ Pu I (Z x) (Z' x)) {c:Call} {ty:TypeId} (h:vk dW P sh sf Z H c K=some r):Good P hint sh K r Γ Pu H I (aq (da P self Z' I c ty))∨((∃ x,c.callee= .value x)/\Ti P hint sh K r Γ Pu H I (da P self Z' I c ty)):=by
 unfold vk at h;unfold da;have hargs:=bK.map hρ c.args.toList;split at h
 ·rename_i b hc
  simp only [hc];exact .inl (EC hs h hargs)
 ·rename_i f hc
  simp only [hc];have hf:=hρ f;split at h
  ·rename_i l hfe
   rw [hfe] at hf;generalize Z' f=fv at hf;cases hf with |mX hl hp=>
   obtain ⟨v,I1,e1,e2⟩:=(Ma hs ok h hl hp hargs).RL;simp only [e1,aq];exact .inl e2
  ·rename_i fn first cap hfe
   rw [hfe] at hf;generalize Z' f=fv at hf;cases hf with |fn a b=>
   exact (I5 hs ok h ((a.append hargs).append b)).imp id fun h=>⟨⟨_,rfl⟩,h⟩
  ·cases h
 ·cases h
theorem Q7 {op:BinOp} {t:TypeId} {x y:Operand} {a b:TV} {a' b':Value} {q:Bool} (h:Rm P op t x y a b=some q) (ha:GR Γ Pu I a a') (hb:GR Γ Pu I b b'):aq (aD P I op t x y a' b')=some (.bool q,I):=by
 unfold Rm at h;split at h
 ·rename_i ms hu
  cases ha;cases hb;replace h:=ae h;obtain ⟨hc,h⟩:=h;have ne:ef P I t .nilIface .nilIface=none:=by unfold ef;rw [hu]
  have guard:∀ op,eqGuard op t x y .nilIface .nilIface=pure ():=by
   intro op;cases x with
   |const c=>exact eqGuard_nil_constL ..
   |_=>cases y with
    |const c=>exact eqGuard_nil_constR ..
    |_=>cases hc
  have he:bQ P (Op.equal t .nilIface .nilIface)=some true:=by
   unfold Op.equal
   show bQ P (Op.equalIn (9999+1) t .nilIface .nilIface)=_
   unfold Op.equalIn;rw [aP _ _ _ (bo hu)];rfl
  have go:∀ (neg:Bool),bQ P (do eqGuard (if neg then .neq else .eql) t x y .nilIface .nilIface;Go.binOp (if neg then .neq else .eql) t .nilIface .nilIface)=some (.bool (if neg then false else true)):=by
   intro neg;rw [guard,aP _ _ _ (Nu P ())];cases neg with
   |false=>simp only [Bool.false_eq_true,if_false];unfold Go.binOp;exact (aP P _ _ he).trans rfl
   |true=>simp only [if_true];unfold Go.binOp;exact (aP P _ _ he).trans rfl
  split at h
  ·cases h
   have g:=go false;simp only [Bool.false_eq_true,if_false] at g;simp only [aD,bT,ne,free,aV,Bool.and_self,if_true,Bool.false_eq_true,if_false,g,aq]
  ·cases h
   have g:=go true;simp only [if_true] at g;simp only [aD,bT,ne,free,aV,Bool.and_self,if_true,g,aq]
  ·cases h
 ·rename_i ms hu
  cases ha;cases hb;have ne:∀ t' v',ef P I t (.iface t' v') .nilIface=some false:=fun t' v'=>by unfold ef;rw [hu]
  split at h
  ·cases h
   simp only [aD,bT,ne,Bool.false_eq_true,if_false,aq]
  ·cases h
   simp only [aD,bT,ne,if_true,Bool.not_false,aq]
  ·cases h
 ·cases h
theorem Lg {t:TV} {v v':Value} (h:TU t=some v) (hr:GR Γ Pu I t v'):v'=v:=by
 unfold TU at h;split at h<;>first |cases h |skip
 ·cases hr;rfl
 ·cases hr;rfl
theorem Tg:∀ {l:List TV} {vs vs':List Value},SW l=some vs->bK Γ Pu I l vs'->vs'=vs:=by
 intro l
 induction l with
 |nil=>intro vs vs' h hr;cases h;cases hr;rfl
 |cons t r ih=>
  intro vs vs' h hr;unfold SW at h;split at h
  ·rename_i v ws h1 h2
   cases h;cases hr with |cons a b=>rw [Lg h1 a,ih h2 b]
  ·cases h
theorem Vx {t:TV} {v v':Value} (h:Yt t=some v) (hr:GR Γ Pu I t v'):v'=v:=by
 unfold Yt at h;split at h
 ·split at h
  ·rename_i vs hv
   cases h;cases hr with |agg hr=>rw [Tg hv hr]
  ·cases h
 ·exact Lg h hr
theorem K0 (v:Value):GR Γ Pu I (QN v) v:=by
 unfold QN;split
 ·exact .int _ _
 ·exact .bool _
 ·exact .undef _
theorem RQ (v:Value):GR Γ Pu I (Yc v) v:=by
 unfold Yc;split
 ·rename_i cs
  obtain ⟨l⟩:=cs;refine .agg ?_
  show bK Γ Pu I (l.map QN) l
  induction l with
  |nil=>exact .nil
  |cons a r ih=>exact .cons (K0 a) ih
 ·exact K0 _
theorem zk (hs:aw P hint sh Γ Pu H I) {t:TypeId} {x:TV} {x':Value} (h:oI P H t x K=some r) (hx:GR Γ Pu I x x'):Good P hint sh K r Γ Pu H I (aq (dM P I t x')):=by
 unfold oI at h;unfold dM;split at h
 ·cases h
 ·rename_i u hne hu
  split at h
  ·rename_i v hv
   have e:=Vx hv hx;subst e;split
   ·rename_i ms hm;rw [hu] at hm;cases hm;exact absurd rfl (hne _)
   ·simp only [aq];exact Good.same hs h (.raw _)
   ·rename_i hm;rw [hm] at hu;cases hu
  ·cases h
 ·cases h
theorem xk (hs:aw P hint sh Γ Pu H I) {x:TV} {x':Value} {a:TypeId} {q:Bool} (h:mJ P H x a q K=some r) (hx:GR Γ Pu I x x'):Good P hint sh K r Γ Pu H I (aq (dm P I x' a q)):=by
 unfold mJ at h;unfold dm;split at h
 ·cases h
 ·rename_i u t v hne hu
  cases hx;replace h:=ae h;obtain ⟨hb,h⟩:=h;have e:=beq_true hb;subst e;split
  ·rename_i ms hm;rw [hu] at hm;cases hm;exact absurd rfl (hne _)
  ·rename_i u' t' v' hne' hu' heq
   cases heq;rw [if_pos rfl];cases q with
   |true=>simp only [fR,if_true,aq];exact Good.same hs h (.jg (.cons (RQ _) (.cons (.bool true) .nil)))
   |false=>simp only [fR,Bool.false_eq_true,if_false,aq];exact Good.same hs h (RQ _)
  ·rename_i hno;exact absurd rfl (hno _ _ _ hu)
 ·cases h
theorem Nt (hs:aw P hint sh Γ Pu H I) {x:TV} {x':Value} (h:IL H x K=some r) (hx:GR Γ Pu I x x'):Ti P hint sh K r Γ Pu H I (qh I x'):=by
 unfold IL at h;split at h
 ·cases hx
  exact ⟨_,_,_,_,_,h,rfl,hs,Ex.refl hs⟩
 ·cases h
theorem Jy {o:Oper} {c:Call} {x:Operand} (hx:c.callee= .value x) (ho:o.op= .call c):kindOf P o= .chain:=by
 obtain ⟨cal,as,ts⟩:=c;simp only at hx;subst hx;simp only [kindOf,ho]
theorem wU {α:Type} {t:TV} {v:Value} {p:Value->α} {k:α} (h:GR Γ Pu I t v):Om t p k=k:=by
 cases t<;>first |rfl |cases h
theorem xC {sh:cA} (hs:aw P hint sh Γ Pu H I) (ok:dv P hint sh sf self) {Z:Operand->TV} {Z':Operand->Value} (hρ:∀ x,GR Γ Pu I (Z x) (Z' x)) {o:Oper} (h:jc dW P sh sf Z H o K=some r):Good P hint sh K r Γ Pu H I (aq (aO P self Z' I o))∨(kindOf P o= .chain/\Ti P hint sh K r Γ Pu H I (aO P self Z' I o)):=by
 unfold jc at h;unfold aO;split at h<;>(rename_i ho;try simp only [ho])
 ·exact .inl (Good.same hs h (hρ _))
 ·exact .inl (Good.same hs h (hρ _))
 ·exact .inl (Su hs h (hρ _) (hρ _) (hρ _))
 ·exact .inl (Me hs h)
 ·exact .inl (Te hs h (hρ _))
 ·exact .inl (M3 hs h (HF.map hρ _))
 ·exact .inl (uN hs h (HF.map hρ _))
 ·exact .inl (L5 hs h (hρ _))
 ·exact .inl (Ib hs h (hρ _) (hρ _))
 ·exact .inl (Uw hs h (hρ _))
 ·refine .inl ?_
  split at h
  ·rename_i hq
   rw [Q7 hq (hρ _) (hρ _)];exact Good.same hs h (.bool _)
  ·exact UL hs h (hρ _) (hρ _)
 ·exact .inl (VH hs h (hρ _))
 ·exact .inl (HC hs h (hρ _))
 ·simp only [eU,if_true,aq]
  exact .inl <|Good.same hs h (.fn (bK.map hρ _) (bK.map hρ _))
 ·exact .inl <|wC hs h (hρ _) (hρ _) (fun he=>by
   rename_i t l c;unfold CJ at he;split at he
   ·rw [beq_true he]
   ·cases he)
 ·exact .inl (M1 hs h (hρ _) (eh.map hρ _) (eh.map hρ _) (eh.map hρ _))
 ·exact .inl (zr hs h (hρ _))
 ·exact .inl (Np hs h (hρ _))
 ·exact .inl (yx hs h (hρ _) (RE (hρ _)))
 ·exact .inl (MO hs h (hρ _) (RE (hρ _)))
 ·exact .inl (ML hs h (hρ _))
 ·exact .inl (Dh hs h (eh.map hρ _))
 ·exact .inl (Fp hs h (hρ _) (hρ _))
 ·exact .inl (tQ hs h (hρ _) (hρ _) (hρ _))
 ·exact .inl (tQ hs h (hρ _) (hρ _) (hρ _))
 ·exact .inl (SA hs h (hρ _))
 ·exact .inl (Hm hs h (hρ _))
 ·exact .inl (zk hs h (hρ _))
 ·exact .inl (xk hs h (hρ _))
 ·exact .inr ⟨by simp only [kindOf,ho],Nt hs h (hρ _)⟩
 ·exact (HP hs ok hρ h).imp id fun ⟨⟨x,hx⟩,h⟩=>⟨Jy hx ho,h⟩
 ·cases h
theorem Lj {sh:cA} (hs:aw P hint sh Γ Pu H I) (ok:dv P hint sh sf self) {Z:Operand->TV} {Z':Operand->Value} (hρ:∀ x,GR Γ Pu I (Z x) (Z' x)) {o:Oper} (hk:kindOf P o≠ .chain) (h:jc dW P sh sf Z H o K=some r):Good P hint sh K r Γ Pu H I (aq (aO P self Z' I o)):=
 (xC hs ok hρ h).elim id fun h=>absurd h.1 hk
end
end Go.Gv
