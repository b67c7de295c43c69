/- The pure evaluator's runs are the ideal one's: operations, regions, calls of yield. -/
import Derived.Test.YteknbnkjelmfaaaGreatDoorGvNestX
import Derived.Test.YteknbnkjelmfaaaGreatDoorGvMapN
set_option linter.unusedSimpArgs false
set_option linter.unusedVariables false
namespace Go.Gv
open Go Go.Iv
def DB (n0:Nat) (I:IH) (D:List Deferred):Prop:=
 ∃ ds:List Nat,ds.Nodup/\D=ds.map (fun r=>({ target:= .collected r,args:=#[] }:Deferred))/\∀ r∈ds,dA<=r/\n0<=r/\I.get r=some (.mN true)
def NJ (Γ:bj) (ro ro':Option Nat):Prop:=
 (ro=none/\ro'=none)∨∃ l b loc,ro=some l/\ro'=some b/\Γ l=some loc/\loc.pos=some (b,0)
section
variable {β:Type} {P:Program} {hint:Hint} {sh:cz} {O:Nat->Prop} {Γ Γ1:bj} {Pu Pu1:Nat->Prop} {H H1:GH} {I I1 I2:IH} {r:β}
theorem aE.DY (hs:aE P hint sh Γ Pu H I) {b:Nat} {o:Bool} (hb:I.get b=some (.mN o)):¬ bT Γ H I b:=by
 rintro ⟨id,ob,l,hg,hm,hl,hat⟩;obtain ⟨l',hl',ho⟩:=hs.obj id ob hg;cases hl.symm.trans hl';rcases hat with ⟨x,hp⟩ |hat
 ·cases ob with
  |cells et cs w=>obtain ⟨b',vs,fz,ex,sd,hp',hb',_⟩:=ho;cases hp.symm.trans hp';rw [hb] at hb';cases hb'
  |arr et e xs w fz em=>obtain ⟨vs,f,ex,sd,h⟩:=ll.get ho hp;rw [hb] at h;cases h
  |nest et e no net ne xs em ho'=>
   obtain ⟨_,_,_,_,h1 |⟨b',o,vs,f,ex,hp',_,hb',_⟩⟩:=ho
   ·rw [h1.1] at hp;cases hp
   ·cases hp.symm.trans hp';rw [hb] at hb';cases hb'
  |iter s pos=>obtain ⟨b',hp',_,hb'⟩:=ho;cases hp.symm.trans hp';rw [hb] at hb';cases hb'
  |map kt gk ge k e xs em=>
   obtain ⟨_,⟨h1,_⟩ |⟨b',es,ck,hp',_,_,hb',_⟩⟩:=ho
   ·rw [h1] at hp;cases hp
   ·cases hp.symm.trans hp';rw [hb] at hb';cases hb'
  |gB kt gk k net ne xs ho'=>obtain ⟨_,_,_,b',es,ck,hp',_,hb',_⟩:=ho;cases hp.symm.trans hp';rw [hb] at hb';cases hb'
  |loop bM st pd fi E ps dV body=>obtain ⟨b',E',hp',_,hb',_⟩:=ho;cases hp.symm.trans hp';rw [hb] at hb';cases hb'
 ·cases ob with
  |nest et e no net ne xs em ho'=>
   obtain ⟨i,hi⟩:=hat;obtain ⟨x,v,l',o',_,h2,_,h4⟩:=dP.at ho hi;obtain ⟨vs,f,ex,sd,h⟩:=h2.get h4;rw [hb] at h;cases h
  |gB kt gk k net ne xs ho'=>
   obtain ⟨i,hi⟩:=hat;obtain ⟨x,v,l',o',_,h2,_,h4⟩:=jW.at ho hi;obtain ⟨vs,f,ex,sd,h⟩:=h2.get h4;rw [hb] at h;cases h
  |_=>cases hat
theorem DB.ex (hs:aE P hint sh Γ Pu H I) (he:Ex (bT Γ H I) Γ Pu H I Γ1 Pu1 H1 I1) {n0:Nat} {D:List Deferred} (h:DB n0 I D):DB n0 I1 D:=by
 obtain ⟨ds,h1,h2,h3⟩:=h;refine ⟨ds,h1,h2,fun r hr=>?_⟩;obtain ⟨a,b,c⟩:=h3 r hr;exact ⟨a,b,(he.cQ r (hs.lt c) (hs.DY c)).trans c⟩
theorem NJ.mono (h:∀ id l,Γ id=some l->Γ1 id=some l) {ro ro':Option Nat} (hr:NJ Γ ro ro'):NJ Γ1 ro ro':=by
 rcases hr with h0 |⟨l,b,loc,h1,h2,h3,h4⟩
 ·exact .inl h0
 ·exact .inr ⟨l,b,loc,h1,h2,h _ _ h3,h4⟩
def iQ (P:Program) (hint:Hint) (sh:cz) (K:TV->GH->Option β) (r:β) (Γ:bj) (Pu:Nat->Prop) (H:GH) (I:IH) (run:Option (Iv.End×IH)):Prop:=
 ∃ t H1 Γ1 Pu1 v I1,K t H1=some r/\run=some (.returned v,I1)/\GR Γ1 Pu1 I1 t v/\aE P hint sh Γ1 Pu1 H1 I1/\Ex (bT Γ H I) Γ Pu H I Γ1 Pu1 H1 I1
def dC (P:Program) (hint:Hint) (sh:cz) (K:X->GE->GH->Option β) (r:β) (Γ:bj) (Pu:Nat->Prop) (H:GH) (I:IH) (n0:Nat) (ro:Option Nat) (D:List Deferred) (run:eR):Prop:=
 ∃ x E1 H1 Γ1 Pu1 E1' I1 D1,K x E1 H1=some r/\run=some (x,E1',I1,D1)/\ER Γ1 Pu1 I1 E1 E1'/\aE P hint sh Γ1 Pu1 H1 I1/\Ex (bT Γ H I) Γ Pu H I Γ1 Pu1 H1 I1/\DB n0 I1 D1/\(ro.isSome=true->D1=D)
structure fL (P:Program) (hint:Hint) (sh:cz) (sf:fD β) (sl:Self):Prop where
 call:∀ {f:FuncId} {args:List TV} {H:GH} {K:TV->GH->Option β} {r:β} {Γ:bj} {Pu:Nat->Prop} {I:IH} {args':List Value},sf.call f args H K=some r->aE P hint sh Γ Pu H I->bI Γ Pu I args args'->iQ P hint sh K r Γ Pu H I (sl.call f args' I)
 code:∀ {bM:Nat} {fi:FI} {ro ro':Option Nat} {c:Code} {E:GE} {E':En} {H:GH} {K:X->GE->GH->Option β} {r:β} {Γ:bj} {Pu:Nat->Prop} {I:IH} {n0:Nat} {D:List Deferred},
  sf.code bM fi ro c E H K=some r->aE P hint sh Γ Pu H I->ER Γ Pu I E E'->NI P hint bM fi c->NJ Γ ro ro'->DB n0 I D->n0<=I.n->dC P hint sh K r Γ Pu H I n0 ro D (sl.code fi ro' c E' I D)
 loop:∀ {bM:Nat} {fi:FI} {ro ro':Option Nat} {c:Code} {d:Option β} {E:GE} {E':En} {H:GH} {K:X->GE->GH->Option β} {r:β} {Γ:bj} {Pu:Nat->Prop} {I:IH} {n0:Nat} {D:List Deferred},
  sf.loop bM (dp c) ro d E H K=some r->aE P hint sh Γ Pu H I->ER Γ Pu I E E'->NI P hint bM fi (.loop c)->NJ Γ ro ro'->DB n0 I D->n0<=I.n->d=some r∨dC P hint sh K r Γ Pu H I n0 ro D (aK P sl fi ro' (.loop c) E' I D)
theorem fx (l:IP) (d t:Nat) (v:TV):eX (nf l d v) t=if t=d then v else eX l t:=by
 induction l with
 |e=>
  simp only [nf,eX];by_cases h:t=d
  ·subst h;simp
  ·rw [if_neg h,gN (Ne.symm h)];rfl
 |c k u r ih=>
  simp only [nf];by_cases hk:k=d
  ·subst hk
   simp only [Nat.beq_refl,zac,eX];by_cases h:t=k
   ·subst h;simp
   ·rw [if_neg h,gN (Ne.symm h)];rfl
  ·rw [gN hk]
   simp only [zab,eX,ih];by_cases h:t=d
   ·subst h;simp [gN hk]
   ·rw [if_neg h,if_neg h]
theorem ER.MI {E:GE} {E':En} (h:ER Γ Pu I E E') (d:Nat) {t:TV} {v:Value} (hv:GR Γ Pu I t v) (fi:FI):ER Γ Pu I (cN fi d t E) (mZ fi d v E'):=by
 unfold cN mZ;cases cls fi d with
 |out=>exact h
 |loc=>
  intro k;refine ⟨?_,(h k).2⟩
  show GR Γ Pu I (eX (nf E.loc d t) k) (lk (Iv.MI E'.loc d v) k)
  rw [fx,yj];split
  ·exact hv
  ·exact (h k).1
 |tmp=>
  intro k;refine ⟨(h k).1,?_⟩
  show GR Γ Pu I (eX (.c d t E.tmp) k) (lk (.c d v E'.tmp) k)
  simp only [eX,lk];cases Nat.beq d k
  ·exact (h k).2
  ·exact hv
theorem ER.OS {E:GE} {E':En} (h:ER Γ Pu I E E') (d:Nat) (fi:FI) {t:TV} (hv:GR Γ Pu I t (eZ fi E' d)):ER Γ Pu I (cN fi d t E) E':=by
 unfold cN;unfold eZ at hv;cases hc:cls fi d with
 |out=>exact h
 |loc=>
  rw [hc] at hv;intro k;refine ⟨?_,(h k).2⟩
  show GR Γ Pu I (eX (nf E.loc d t) k) (lk E'.loc k)
  rw [fx];split
  ·rename_i e;subst e;exact hv
  ·exact (h k).1
 |tmp=>
  rw [hc] at hv;intro k;refine ⟨(h k).1,?_⟩
  show GR Γ Pu I (eX (.c d t E.tmp) k) (lk E'.tmp k)
  simp only [eX];cases hb:Nat.beq d k
  ·exact (h k).2
  ·rw [←Nat.eq_of_beq_eq_true hb];exact hv
theorem ER.put {E:GE} {E':En} (h:ER Γ Pu I E E') (fi:FI) (d:Option Tmp) {t:TV} {v:Value} (hv:GR Γ Pu I t v):ER Γ Pu I (c8 fi E d t) (cR fi E' d v):=by
 cases d with
 |none=>exact h
 |some d=>exact h.MI d hv fi
theorem ER.reset {E:GE} {E':En} (h:ER Γ Pu I E E'):ER Γ Pu I E.reset E'.reset:=fun t=>⟨(h t).1,.undef _⟩
theorem ER.args {l:List TV} {l':List Value} (h:bI Γ Pu I l l'):ER Γ Pu I ⟨Hf 0 l,.e⟩ (eN l'):=by
 have:∀ (i:Nat) (l:List TV) (l':List Value),bI Γ Pu I l l'->∀ t,GR Γ Pu I (eX (Hf i l) t) (lk (yP i l') t):=by
  intro i l
  induction l generalizing i with
  |nil=>intro l' h t;cases h;exact .undef _
  |cons a l ih=>
   intro l' h t;cases h with |cons x y=>
   simp only [Hf,yP,eX,lk];cases Nat.beq i t
   ·exact ih (i+1) _ y t
   ·exact x
 exact fun t=>⟨this 0 l l' h t,.undef _⟩
theorem ER.kL (fi:FI):∀ {ps:List Tmp} {l:List TV} {l':List Value} {E:GE} {E':En},ER Γ Pu I E E'->bI Γ Pu I l l'->ER Γ Pu I (xJ fi ps l E) (Iv.kL fi ps l' E'):=by
 intro ps
 induction ps with
 |nil=>intro l l' E E' h _;cases l<;>cases l'<;>exact h
 |cons p ps ih=>
  intro l l' E E' h hr;cases hr with
  |nil=>exact h
  |cons a b=>exact ih (h.MI p a fi) b
theorem bI.map {Z:Operand->TV} {Z':Operand->Value} (h:∀ x,GR Γ Pu I (Z x) (Z' x)):∀ l:List Operand,bI Γ Pu I (l.map Z) (l.map Z'):=by
 intro l
 induction l with
 |nil=>exact .nil
 |cons a l ih=>exact .cons (h a) ih
theorem dO.map {Z:Operand->TV} {Z':Operand->Value} (h:∀ x,GR Γ Pu I (Z x) (Z' x)) (o:Option Operand):dO Γ Pu I (o.map Z) (o.map Z'):=by
 cases o with
 |none=>exact .none
 |some a=>exact .some (h a)
variable {K:TV->GH->Option β} {sf:fD β} {self:Self}
theorem DB.nil (n0:Nat) (I:IH):DB n0 I []:=⟨[],List.nodup_nil,rfl,fun r h=>by cases h⟩
theorem M9 (hs:aE P hint sh Γ Pu H I) (ok:fL P hint sh sf self) {l b:Nat} {loc:Loc} {args:List TV} {args':List Value} (h:IW sf l args H K=some r) (hl:Γ l=some loc) (hp:loc.pos=some (b,0)) (ha:bI Γ Pu I args args'):
  Good P hint sh K r Γ Pu H I (fA self b args' I):=by
 unfold IW at h;split at h
 ·rename_i bM pd fi E ps dV body hg
  replace h:=ae h;obtain ⟨hb,h⟩:=h;obtain ⟨l',hl',ho⟩:=hs.obj _ _ hg;cases hl.symm.trans hl';obtain ⟨b',E',hp',hro,hgb,hE,fo,qs,hi0,_⟩:=ho;have hi1:=hi0.sub (.dV (.refl _));have hi2:=hi0.sub (.body (.refl _));cases hp.symm.trans hp';have hor:NJ Γ (some l) (some b):= .inr ⟨l,b,loc,rfl,rfl,hl,hp⟩;obtain ⟨x,E1,H1,Γ1,Pu1,E1',I1,D1,k1,k2,k3,k4,k5,k6,k7⟩:=ok.code h hs (hE.kL fi ha) hi1 hor (DB.nil I.n I) (zam _);have hD:D1= []:=k7 rfl;subst hD;have hlen:args'.length==ps.length:=by rw [ha.length];simpa using beq_true hb
  cases x with
  |exit id=>cases k1
  |ret=>cases k1
  |panic v=>cases k1
  |normal=>
   simp only at k1;split at k1
   ·rename_i fid1 pd1 fi1 F1 ps1 asg1 body1 hg1
    obtain ⟨l1,hl1,ho1⟩:=k4.obj _ _ hg1;cases (k5.g _ _ hl).symm.trans hl1;obtain ⟨b1,F1',hp1,hro1,hgb1,hF1,hi3⟩:=ho1;cases hp.symm.trans hp1;have nb:∀ {Γ:bj} {Pu:Nat->Prop} {H:GH} {I:IH} (_:aE P hint sh Γ Pu H I) {o:bH},H.get l=some o->o.dw=true->Γ l=some loc->∀ io,db Γ Pu I Γ Pu (I.put b io):=fun s o hg hm hl io=>
     ⟨fun _ _ h=>h,fun _ h=>h,fun b' hb'=>by rw [IH.an,if_neg (by rintro rfl;exact s.sep _ (.pos hg hm hl hp) hb')]⟩
    obtain ⟨s2,e2⟩:=k4.jK hg1 rfl hl1 hp (.loop fid1 .busy pd1 fi1 F1 ps1 asg1 body1) (.loop .busy pd1 fi1 F1' ps1 asg1 body1)
     ⟨b,F1',hp,hro,by rw [IH.an,if_pos rfl],hF1.mono (nb k4 hg1 rfl hl1 _),hi3⟩
    have ke:=nb k4 hg1 rfl hl1 (.loop .busy pd1 fi1 F1' ps1 asg1 body1);obtain ⟨x,E2,H2,Γ2,Pu2,E2',I2,D2,j1,j2,j3,j4,j5,j6,j7⟩:=ok.code k1 s2 (k3.mono ke) hi2 (hor.mono k5.g) (DB.nil _ _) (zam _);have hD:D2= []:=j7 rfl;subst hD;simp only at j1;split at j1
    ·rename_i fid2 st2 pd2 fi2 F2 ps2 asg2 body2 hg2
     have hl2:=j5.g _ _ (k5.g _ _ hl);obtain ⟨l2,hl2',ho2⟩:=j4.obj _ _ hg2;cases hl2.symm.trans hl2';obtain ⟨b2,F2',hp2,hro2,hgb2,hF2,hi5⟩:=ho2;cases hp.symm.trans hp2;have hall:=Ex.trans hs k4 k5 (Ex.trans k4 s2 e2 j5)
     have fin:∀ (st:LoopState) (pd:Option Code),aE P hint sh Γ2 Pu2 (H2.put l (.loop fid2 st pd fi2 F2 ps2 asg2 body2)) (I2.put b (.loop st pd fi2 F2' ps2 asg2 body2))/\
       Ex (bT Γ H I) Γ Pu H I Γ2 Pu2 (H2.put l (.loop fid2 st pd fi2 F2 ps2 asg2 body2)) (I2.put b (.loop st pd fi2 F2' ps2 asg2 body2)):=by
      intro st pd
      obtain ⟨s3,e3⟩:=j4.jK hg2 rfl hl2 hp (.loop fid2 st pd fi2 F2 ps2 asg2 body2) (.loop st pd fi2 F2' ps2 asg2 body2)
       ⟨b,F2',hp,hro,by rw [IH.an,if_pos rfl],hF2.mono (nb j4 hg2 rfl hl2 _),hi5⟩
      exact ⟨s3,Ex.trans hs j4 hall e3⟩
     have hcond:(decide (dA<=b) &&args'.length==ps.length)=true:=by simp [hro];simpa using hlen
     cases x with
     |normal=>
      obtain ⟨a,c⟩:=fin .ready none;have hev:fA self b args' I=some (.bool true,I2.put b (.loop .ready none fi2 F2' ps2 asg2 body2)):=by
       simp only [fA,hgb];rw [if_pos hcond,k2];simp only [hgb1];rw [j2];simp only [hgb2]
      rw [hev];exact ⟨_,_,_,_,_,_,j1,rfl,.bool true,a,c⟩
     |ret=>
      obtain ⟨a,c⟩:=fin .done (some .ret);have hev:fA self b args' I=some (.bool false,I2.put b (.loop .done (some .ret) fi2 F2' ps2 asg2 body2)):=by
       simp only [fA,hgb];rw [if_pos hcond,k2];simp only [hgb1];rw [j2];simp only [hgb2]
      rw [hev];exact ⟨_,_,_,_,_,_,j1,rfl,.bool false,a,c⟩
     |exit id=>
      obtain ⟨a,c⟩:=fin .done (some (.exit id));have hev:fA self b args' I=some (.bool false,I2.put b (.loop .done (some (.exit id)) fi2 F2' ps2 asg2 body2)):=by
       simp only [fA,hgb];rw [if_pos hcond,k2];simp only [hgb1];rw [j2];simp only [hgb2]
      rw [hev];exact ⟨_,_,_,_,_,_,j1,rfl,.bool false,a,c⟩
     |panic v=>cases j1
    ·cases j1
   ·cases k1
 ·cases h
theorem Good.Qv {run:Option (Value×IH)} (h:Good P hint sh K r Γ Pu H I run):∃ v I1,run=some (v,I1)/\Good P hint sh K r Γ Pu H I (some (v,I1)):=by
 obtain ⟨t,H1,Γ1,Pu1,v,I1,a,b,c⟩:=h;exact ⟨v,I1,b,t,H1,Γ1,Pu1,v,I1,a,rfl,c⟩
theorem IA (hs:aE P hint sh Γ Pu H I) (ok:fL P hint sh sf self) {f:FuncId} {a c:List Value} {args:List TV} {args':List Value} (h:DG P sf H f args K=some r) (ha:bI Γ Pu I args (a++args'++c)):
  Good P hint sh K r Γ Pu H I (aA (rz (iN P self I (.func (.func f) ⟨a⟩ ⟨c⟩) args'))):=by
 unfold DG at h;unfold iN;split at h
 ·rename_i fn hfn
  simp only [hfn];split at h
  ·rename_i hb
   simp only [hb];obtain ⟨v,I1,e1,e2⟩:=(Jg (P:=P) hs h ha).Qv;simp only [e1,rz,aA];exact e2
  ·rename_i hb
   simp only [hb];obtain ⟨t,H1,Γ1,Pu1,v,I1,k1,k2,k3⟩:=ok.call h hs ha;simp only [k2,rz,aA];exact ⟨t,H1,Γ1,Pu1,v,I1,k1,rfl,k3⟩
 ·cases h
theorem max_eq (x y:Int):(if y>x then y else x)=(bif aX x y then y else x):=by
 rw [eO];by_cases h:x<y
 ·rw [if_pos h];simp [h]
 ·rw [if_neg h];simp [h]
theorem EJ {sh:cz} (hs:aE P hint sh Γ Pu H I) {b:Builtin} {ts:Array TypeId} {ty:TypeId} {args:List TV} {args':List Value} (h:pC ek P sh H b ts args K=some r) (ha:bI Γ Pu I args args'):Good P hint sh K r Γ Pu H I (aA (bc P I b ts ty args')):=by
 unfold pC at h;split at h
 ·cases ha with |cons x y=>cases y with |cons y z=>cases z;exact Fo hs h x y
 ·cases ha with |cons x y=>
  cases y;split at h
  ·rename_i t ht
   simp only [bc,ht];exact O9 hs h x
  ·cases h
 ·exact zi (g:=Builtin.max2) hs (fun k n k' m=>by simp only [Builtin.max2,max_eq]) (fun x rest e=>by rw [e];rfl) h ha
 ·exact zi (g:=Builtin.min2) hs (fun k n k' m=>by
   simp only [Builtin.min2];have:(if m<n then m else n)=(bif aX m n then m else n):=by
    rw [eO];by_cases h:m<n
    ·rw [if_pos h];simp [h]
    ·rw [if_neg h];simp [h]
   rw [this]) (fun x rest e=>by rw [e];rfl) h ha
 ·cases ha with |cons x y=>cases y;exact zZ hs h x
 ·replace h:=ae h;obtain ⟨hb,h⟩:=h
  cases ha with |cons x y=>cases y with |cons y z=>cases z;exact G6 hs h x y hb
 ·cases h
theorem Iu {sh:cz} (hs:aE P hint sh Γ Pu H I) (ok:fL P hint sh sf self) {Z:Operand->TV} {Z':Operand->Value} (hρ:∀ x,GR Γ Pu I (Z x) (Z' x)) {c:Call} {ty:TypeId} (h:vw ek P sh sf Z H c K=some r):Good P hint sh K r Γ Pu H I (aA (cZ P self Z' I c ty)):=by
 unfold vw at h;unfold cZ;have hargs:=bI.map hρ c.args.toList;split at h
 ·rename_i b hc
  simp only [hc];exact EJ hs h hargs
 ·rename_i f hc
  simp only [hc];have hf:=hρ f;split at h
  ·rename_i l hfe
   rw [hfe] at hf;generalize Z' f=fv at hf;cases hf with |mI hl hp=>
   obtain ⟨v,I1,e1,e2⟩:=(M9 hs ok h hl hp hargs).Qv;simp only [e1,aA];exact e2
  ·rename_i fn first cap hfe
   rw [hfe] at hf;generalize Z' f=fv at hf;cases hf with |fn a b=>
   exact IA hs ok h ((a.append hargs).append b)
  ·cases h
 ·cases h
theorem NT {op:BinOp} {t:TypeId} {x y:Operand} {a b:TV} {a' b':Value} {q:Bool} (h:Q5 P op t x y a b=some q) (ha:GR Γ Pu I a a') (hb:GR Γ Pu I b b'):aA (aD P I op t x y a' b')=some (.bool q,I):=by
 unfold Q5 at h;split at h
 ·rename_i ms hu
  cases ha;cases hb;replace h:=ae h;obtain ⟨hc,h⟩:=h;have ne:ep P I t .nilIface .nilIface=none:=by unfold ep;rw [hu]
  have guard:∀ op,eqGuard op t x y .nilIface .nilIface=pure ():=by
   intro op;cases x with
   |const c=>exact eqGuard_nil_constL ..
   |_=>cases y with
    |const c=>exact eqGuard_nil_constR ..
    |_=>cases hc
  have he:bE P (Op.equal t .nilIface .nilIface)=some true:=by
   unfold Op.equal
   show bE P (Op.equalIn (9999+1) t .nilIface .nilIface)=_
   unfold Op.equalIn;rw [aJ _ _ _ (bh hu)];rfl
  have go:∀ (neg:Bool),bE P (do eqGuard (if neg then .neq else .eql) t x y .nilIface .nilIface;Go.binOp (if neg then .neq else .eql) t .nilIface .nilIface)=some (.bool (if neg then false else true)):=by
   intro neg;rw [guard,aJ _ _ _ (LX P ())];cases neg with
   |false=>simp only [Bool.false_eq_true,if_false];unfold Go.binOp;exact (aJ P _ _ he).trans rfl
   |true=>simp only [if_true];unfold Go.binOp;exact (aJ P _ _ he).trans rfl
  split at h
  ·cases h
   have g:=go false;simp only [Bool.false_eq_true,if_false] at g;simp only [aD,bR,ne,free,aV,zai,if_true,Bool.false_eq_true,if_false,g,aA]
  ·cases h
   have g:=go true;simp only [if_true] at g;simp only [aD,bR,ne,free,aV,zai,if_true,g,aA]
  ·cases h
 ·cases h
theorem rq {sh:cz} (hs:aE P hint sh Γ Pu H I) (ok:fL P hint sh sf self) {Z:Operand->TV} {Z':Operand->Value} (hρ:∀ x,GR Γ Pu I (Z x) (Z' x)) {o:Oper} (h:ja ek P sh sf Z H o K=some r):Good P hint sh K r Γ Pu H I (aA (aP P self Z' I o)):=by
 unfold ja at h;unfold aP;split at h<;>(rename_i ho;try simp only [ho])
 ·exact Good.same hs h (hρ _)
 ·exact Good.same hs h (hρ _)
 ·exact N6 hs h (hρ _) (hρ _) (hρ _)
 ·exact Mj hs h
 ·exact S8 hs h (hρ _)
 ·exact LV hs h (HL.map hρ _)
 ·exact uW hs h (HL.map hρ _)
 ·exact LH hs h (hρ _)
 ·exact Ic hs h (hρ _) (hρ _)
 ·exact Tu hs h (hρ _)
 ·split at h
  ·rename_i hq
   rw [NT hq (hρ _) (hρ _)];exact Good.same hs h (.bool _)
  ·exact Sr hs h (hρ _) (hρ _)
 ·exact VE hs h (hρ _)
 ·exact Hz hs h (hρ _)
 ·simp only [fp,if_true,aA]
  exact Good.same hs h (.fn (bI.map hρ _) (bI.map hρ _))
 ·exact vO hs h (hρ _) (hρ _) (fun he=>by
   rename_i t l c;unfold Cc at he;split at he
   ·rw [beq_true he]
   ·cases he)
 ·exact Nq hs h (hρ _) (dO.map hρ _) (dO.map hρ _) (dO.map hρ _)
 ·exact zT hs h (hρ _)
 ·exact LW hs h (hρ _)
 ·exact wA hs h (hρ _) (QU (hρ _))
 ·exact MS hs h (hρ _) (QU (hρ _))
 ·exact Mp hs h (hρ _)
 ·exact Ds hs h (dO.map hρ _)
 ·exact EL hs h (hρ _) (hρ _)
 ·exact uo hs h (hρ _) (hρ _) (hρ _)
 ·exact uo hs h (hρ _) (hρ _) (hρ _)
 ·exact O3 hs h (hρ _)
 ·exact Ec hs h (hρ _)
 ·exact Iu hs ok hρ h
 ·cases h
end
end Go.Gv
