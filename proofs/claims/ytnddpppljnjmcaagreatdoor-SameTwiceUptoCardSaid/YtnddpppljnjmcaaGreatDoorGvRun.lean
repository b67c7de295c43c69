/- The pure evaluator's runs are the ideal one's: operations, regions, calls of yield. -/
import Derived.Test.YtnddpppljnjmcaaGreatDoorGvNestX
import Derived.Test.YtnddpppljnjmcaaGreatDoorGvMapN
set_option linter.unusedSimpArgs false
set_option linter.unusedVariables false
namespace Go.Gv
open Go Go.Iv
def Dok (n0:Nat) (I:IH) (D:List Deferred):Prop:=
 ∃ ds:List Nat,ds.Nodup∧D=ds.map (fun r=>({ target:= .collected r,args:=#[] }:Deferred))∧∀ r∈ds,roN≤r∧n0≤r∧I.get r=some (.dfr true)
def RoR (Γ:Gam) (ro ro':Option Nat):Prop:=
 (ro=none∧ro'=none)∨∃ l b loc,ro=some l∧ro'=some b∧Γ l=some loc∧loc.pos=some (b,0)
section
variable {β:Type} {P:Program} {hint:Hint} {sh:ShT} {O:Nat→Prop} {Γ Γ1:Gam} {Pu Pu1:Nat→Prop} {H H1:GH} {I I1 I2:IH} {r:β}
theorem Sim.own_dfr (hs:Sim P hint sh Γ Pu H I) {b:Nat} {o:Bool} (hb:I.get b=some (.dfr o)):¬ Own Γ H I b:=by
 rintro ⟨id,ob,l,hg,hm,hl,hat⟩
 obtain ⟨l',hl',ho⟩:=hs.obj id ob hg
 cases hl.symm.trans hl'
 rcases hat with ⟨x,hp⟩ |hat
 ·cases ob with
  |cells et cs w=>obtain ⟨b',vs,fz,ex,sd,hp',hb',_⟩:=ho;cases hp.symm.trans hp';rw [hb] at hb';cases hb'
  |arr et e xs w fz em=>obtain ⟨vs,f,ex,sd,h⟩:=ArrR.get ho hp;rw [hb] at h;cases h
  |nest et e no net ne xs em ho'=>
   obtain ⟨_,_,_,_,h1 | ⟨b',o,vs,f,ex,hp',_,hb',_⟩⟩:=ho
   ·rw [h1.1] at hp;cases hp
   ·cases hp.symm.trans hp';rw [hb] at hb';cases hb'
  |iter s pos=>obtain ⟨b',hp',_,hb'⟩:=ho;cases hp.symm.trans hp';rw [hb] at hb';cases hb'
  |map kt gk ge k e xs em=>
   obtain ⟨_,⟨h1,_⟩ | ⟨b',es,ck,hp',_,_,hb',_⟩⟩:=ho
   ·rw [h1] at hp;cases hp
   ·cases hp.symm.trans hp';rw [hb] at hb';cases hb'
  |mapn kt gk k net ne xs ho'=>obtain ⟨_,_,_,b',es,ck,hp',_,hb',_⟩:=ho;cases hp.symm.trans hp';rw [hb] at hb';cases hb'
  |loop fid st pd fi E ps asg body=>obtain ⟨b',E',hp',_,hb',_⟩:=ho;cases hp.symm.trans hp';rw [hb] at hb';cases hb'
 ·cases ob with
  |nest et e no net ne xs em ho'=>
   obtain ⟨i,hi⟩:=hat
   obtain ⟨x,v,l',o',_,h2,_,h4⟩:=NestR.at ho hi
   obtain ⟨vs,f,ex,sd,h⟩:=h2.get h4
   rw [hb] at h;cases h
  |mapn kt gk k net ne xs ho'=>
   obtain ⟨i,hi⟩:=hat
   obtain ⟨x,v,l',o',_,h2,_,h4⟩:=MapnR.at ho hi
   obtain ⟨vs,f,ex,sd,h⟩:=h2.get h4
   rw [hb] at h;cases h
  |_=>cases hat
theorem Dok.ex (hs:Sim P hint sh Γ Pu H I) (he:Ex (Own Γ H I) Γ Pu H I Γ1 Pu1 H1 I1) {n0:Nat} {D:List Deferred} (h:Dok n0 I D):Dok n0 I1 D:=by
 obtain ⟨ds,h1,h2,h3⟩:=h
 refine ⟨ds,h1,h2,fun r hr=>?_⟩
 obtain ⟨a,b,c⟩:=h3 r hr
 exact ⟨a,b,(he.keep r (hs.lt c) (hs.own_dfr c)).trans c⟩
theorem RoR.mono (h:∀ id l,Γ id=some l→Γ1 id=some l) {ro ro':Option Nat} (hr:RoR Γ ro ro'):RoR Γ1 ro ro':=by
 rcases hr with h0 | ⟨l,b,loc,h1,h2,h3,h4⟩
 ·exact .inl h0
 ·exact .inr ⟨l,b,loc,h1,h2,h _ _ h3,h4⟩
def CallGood (P:Program) (hint:Hint) (sh:ShT) (K:TV→GH→Option β) (r:β) (Γ:Gam) (Pu:Nat→Prop) (H:GH) (I:IH) (run:Option (Iv.End×IH)):Prop:=
 ∃ t H1 Γ1 Pu1 v I1,K t H1=some r∧run=some (.returned v,I1)∧GR Γ1 Pu1 I1 t v∧Sim P hint sh Γ1 Pu1 H1 I1∧Ex (Own Γ H I) Γ Pu H I Γ1 Pu1 H1 I1
def CodeGood (P:Program) (hint:Hint) (sh:ShT) (K:X→GE→GH→Option β) (r:β) (Γ:Gam) (Pu:Nat→Prop) (H:GH) (I:IH) (n0:Nat) (ro:Option Nat) (D:List Deferred) (run:Res):Prop:=
 ∃ x E1 H1 Γ1 Pu1 E1' I1 D1,K x E1 H1=some r∧run=some (x,E1',I1,D1)∧ER Γ1 Pu1 I1 E1 E1'∧Sim P hint sh Γ1 Pu1 H1 I1∧Ex (Own Γ H I) Γ Pu H I Γ1 Pu1 H1 I1∧Dok n0 I1 D1∧(ro.isSome=true→D1=D)
structure SelfOK (P:Program) (hint:Hint) (sh:ShT) (sf:GSelf β) (sl:Self):Prop where
 call:∀ {f:FuncId} {args:List TV} {H:GH} {K:TV→GH→Option β} {r:β} {Γ:Gam} {Pu:Nat→Prop} {I:IH} {args':List Value},sf.call f args H K=some r→Sim P hint sh Γ Pu H I→GRs Γ Pu I args args'→CallGood P hint sh K r Γ Pu H I (sl.call f args' I)
 code:∀ {fid:Nat} {fi:FI} {ro ro':Option Nat} {c:Code} {E:GE} {E':En} {H:GH} {K:X→GE→GH→Option β} {r:β} {Γ:Gam} {Pu:Nat→Prop} {I:IH} {n0:Nat} {D:List Deferred},
  sf.code fid fi ro c E H K=some r→Sim P hint sh Γ Pu H I→ER Γ Pu I E E'→InF P hint fid fi c→RoR Γ ro ro'→Dok n0 I D→n0≤I.n→CodeGood P hint sh K r Γ Pu H I n0 ro D (sl.code fi ro' c E' I D)
 loop:∀ {fid:Nat} {fi:FI} {ro ro':Option Nat} {c:Code} {d:Option β} {E:GE} {E':En} {H:GH} {K:X→GE→GH→Option β} {r:β} {Γ:Gam} {Pu:Nat→Prop} {I:IH} {n0:Nat} {D:List Deferred},
  sf.loop fid (firstR c) ro d E H K=some r→Sim P hint sh Γ Pu H I→ER Γ Pu I E E'→InF P hint fid fi (.loop c)→RoR Γ ro ro'→Dok n0 I D→n0≤I.n→d=some r∨CodeGood P hint sh K r Γ Pu H I n0 ro D (evCode P sl fi ro' (.loop c) E' I D)
theorem lkG_updG (l:GAL) (d t:Nat) (v:TV):lkG (updG l d v) t=if t=d then v else lkG l t:=by
 induction l with
 |e=>
  simp only [updG,lkG]
  by_cases h:t=d
  ·subst h;simp
  ·rw [if_neg h,beq_ne (Ne.symm h)];rfl
 |c k u r ih=>
  simp only [updG]
  by_cases hk:k=d
  ·subst hk
   simp only [Nat.beq_refl,cond_true,lkG]
   by_cases h:t=k
   ·subst h;simp
   ·rw [if_neg h,beq_ne (Ne.symm h)];rfl
  ·rw [beq_ne hk]
   simp only [cond_false,lkG,ih]
   by_cases h:t=d
   ·subst h;simp [beq_ne hk]
   ·rw [if_neg h,if_neg h]
theorem ER.upd {E:GE} {E':En} (h:ER Γ Pu I E E') (d:Nat) {t:TV} {v:Value} (hv:GR Γ Pu I t v) (fi:FI):ER Γ Pu I (putGE fi d t E) (putE fi d v E'):=by
 unfold putGE putE
 cases cls fi d with
 |out=>exact h
 |loc=>
  intro k
  refine ⟨?_,(h k).2⟩
  show GR Γ Pu I (lkG (updG E.loc d t) k) (lk (Iv.upd E'.loc d v) k)
  rw [lkG_updG,lk_upd]
  split
  ·exact hv
  ·exact (h k).1
 |tmp=>
  intro k
  refine ⟨(h k).1,?_⟩
  show GR Γ Pu I (lkG (.c d t E.tmp) k) (lk (.c d v E'.tmp) k)
  simp only [lkG,lk]
  cases Nat.beq d k
  ·exact (h k).2
  ·exact hv
theorem ER.know {E:GE} {E':En} (h:ER Γ Pu I E E') (d:Nat) (fi:FI) {t:TV} (hv:GR Γ Pu I t (lkE fi E' d)):ER Γ Pu I (putGE fi d t E) E':=by
 unfold putGE
 unfold lkE at hv
 cases hc:cls fi d with
 |out=>exact h
 |loc=>
  rw [hc] at hv
  intro k
  refine ⟨?_,(h k).2⟩
  show GR Γ Pu I (lkG (updG E.loc d t) k) (lk E'.loc k)
  rw [lkG_updG]
  split
  ·rename_i e;subst e;exact hv
  ·exact (h k).1
 |tmp=>
  rw [hc] at hv
  intro k
  refine ⟨(h k).1,?_⟩
  show GR Γ Pu I (lkG (.c d t E.tmp) k) (lk E'.tmp k)
  simp only [lkG]
  cases hb:Nat.beq d k
  ·exact (h k).2
  ·rw [←Nat.eq_of_beq_eq_true hb];exact hv
theorem ER.put {E:GE} {E':En} (h:ER Γ Pu I E E') (fi:FI) (d:Option Tmp) {t:TV} {v:Value} (hv:GR Γ Pu I t v):ER Γ Pu I (putGT fi E d t) (putT fi E' d v):=by
 cases d with
 |none=>exact h
 |some d=>exact h.upd d hv fi
theorem ER.reset {E:GE} {E':En} (h:ER Γ Pu I E E'):ER Γ Pu I E.reset E'.reset:=fun t=> ⟨(h t).1,.undef _⟩
theorem ER.args {l:List TV} {l':List Value} (h:GRs Γ Pu I l l'):ER Γ Pu I ⟨argsG 0 l,.e⟩ (frameOf l'):=by
 have:∀ (i:Nat) (l:List TV) (l':List Value),GRs Γ Pu I l l'→∀ t,GR Γ Pu I (lkG (argsG i l) t) (lk (argsL i l') t):=by
  intro i l
  induction l generalizing i with
  |nil=>intro l' h t;cases h;exact .undef _
  |cons a l ih=>
   intro l' h t
   cases h with |cons x y=>
   simp only [argsG,argsL,lkG,lk]
   cases Nat.beq i t
   ·exact ih (i+1) _ y t
   ·exact x
 exact fun t=> ⟨this 0 l l' h t,.undef _⟩
theorem ER.putArgs (fi:FI):∀ {ps:List Tmp} {l:List TV} {l':List Value} {E:GE} {E':En},ER Γ Pu I E E'→GRs Γ Pu I l l'→ER Γ Pu I (putArgsG fi ps l E) (Iv.putArgs fi ps l' E'):=by
 intro ps
 induction ps with
 |nil=>intro l l' E E' h _;cases l<;>cases l'<;>exact h
 |cons p ps ih=>
  intro l l' E E' h hr
  cases hr with
  |nil=>exact h
  |cons a b=>exact ih (h.upd p a fi) b
theorem GRs.map {ρ:Operand→TV} {ρ':Operand→Value} (h:∀ x,GR Γ Pu I (ρ x) (ρ' x)):∀ l:List Operand,GRs Γ Pu I (l.map ρ) (l.map ρ'):=by
 intro l
 induction l with
 |nil=>exact .nil
 |cons a l ih=>exact .cons (h a) ih
theorem OptR.map {ρ:Operand→TV} {ρ':Operand→Value} (h:∀ x,GR Γ Pu I (ρ x) (ρ' x)) (o:Option Operand):OptR Γ Pu I (o.map ρ) (o.map ρ'):=by
 cases o with
 |none=>exact .none
 |some a=>exact .some (h a)
variable {K:TV→GH→Option β} {sf:GSelf β} {self:Self}
theorem Dok.nil (n0:Nat) (I:IH):Dok n0 I []:= ⟨[],List.nodup_nil,rfl,fun r h=>by cases h⟩
theorem gYield_ok (hs:Sim P hint sh Γ Pu H I) (ok:SelfOK P hint sh sf self) {l b:Nat} {loc:Loc} {args:List TV} {args':List Value} (h:gYield sf l args H K=some r) (hl:Γ l=some loc) (hp:loc.pos=some (b,0)) (ha:GRs Γ Pu I args args'):
  Good P hint sh K r Γ Pu H I (evYield self b args' I):=by
 unfold gYield at h
 split at h
 ·rename_i fid pd fi E ps asg body hg
  replace h:=bif_some h;obtain ⟨hb,h⟩:=h
  obtain ⟨l',hl',ho⟩:=hs.obj _ _ hg
  cases hl.symm.trans hl'
  obtain ⟨b',E',hp',hro,hgb,hE,fo,qs,hi0,_⟩:=ho
  have hi1:=hi0.sub (.asg (.refl _))
  have hi2:=hi0.sub (.body (.refl _))
  cases hp.symm.trans hp'
  have hor:RoR Γ (some l) (some b):= .inr ⟨l,b,loc,rfl,rfl,hl,hp⟩
  obtain ⟨x,E1,H1,Γ1,Pu1,E1',I1,D1,k1,k2,k3,k4,k5,k6,k7⟩:=ok.code h hs (hE.putArgs fi ha) hi1 hor (Dok.nil I.n I) (Nat.le_refl _)
  have hD:D1= []:=k7 rfl
  subst hD
  have hlen:args'.length==ps.length:=by rw [ha.length];simpa using beq_true hb
  cases x with
  |exit id=>cases k1
  |ret=>cases k1
  |panic v=>cases k1
  |normal=>
   simp only at k1
   split at k1
   ·rename_i fid1 pd1 fi1 F1 ps1 asg1 body1 hg1
    obtain ⟨l1,hl1,ho1⟩:=k4.obj _ _ hg1
    cases (k5.g _ _ hl).symm.trans hl1
    obtain ⟨b1,F1',hp1,hro1,hgb1,hF1,hi3⟩:=ho1
    cases hp.symm.trans hp1
    have nb:∀ {Γ:Gam} {Pu:Nat→Prop} {H:GH} {I:IH} (_:Sim P hint sh Γ Pu H I) {o:GObj},H.get l=some o→o.mut=true→Γ l=some loc→∀ io,Keep Γ Pu I Γ Pu (I.put b io):=fun s o hg hm hl io=>
     ⟨fun _ _ h=>h,fun _ h=>h,fun b' hb'=>by rw [IH.get_put,if_neg (by rintro rfl;exact s.sep _ (.pos hg hm hl hp) hb')]⟩
    obtain ⟨s2,e2⟩:=k4.turn hg1 rfl hl1 hp (.loop fid1 .busy pd1 fi1 F1 ps1 asg1 body1) (.loop .busy pd1 fi1 F1' ps1 asg1 body1)
     ⟨b,F1',hp,hro,by rw [IH.get_put,if_pos rfl],hF1.mono (nb k4 hg1 rfl hl1 _),hi3⟩
    have ke:=nb k4 hg1 rfl hl1 (.loop .busy pd1 fi1 F1' ps1 asg1 body1)
    obtain ⟨x,E2,H2,Γ2,Pu2,E2',I2,D2,j1,j2,j3,j4,j5,j6,j7⟩:=ok.code k1 s2 (k3.mono ke) hi2 (hor.mono k5.g) (Dok.nil _ _) (Nat.le_refl _)
    have hD:D2= []:=j7 rfl
    subst hD
    simp only at j1
    split at j1
    ·rename_i fid2 st2 pd2 fi2 F2 ps2 asg2 body2 hg2
     have hl2:=j5.g _ _ (k5.g _ _ hl)
     obtain ⟨l2,hl2',ho2⟩:=j4.obj _ _ hg2
     cases hl2.symm.trans hl2'
     obtain ⟨b2,F2',hp2,hro2,hgb2,hF2,hi5⟩:=ho2
     cases hp.symm.trans hp2
     have hall:=Ex.trans hs k4 k5 (Ex.trans k4 s2 e2 j5)
     have fin:∀ (st:LoopState) (pd:Option Code),Sim P hint sh Γ2 Pu2 (H2.put l (.loop fid2 st pd fi2 F2 ps2 asg2 body2)) (I2.put b (.loop st pd fi2 F2' ps2 asg2 body2))∧
       Ex (Own Γ H I) Γ Pu H I Γ2 Pu2 (H2.put l (.loop fid2 st pd fi2 F2 ps2 asg2 body2)) (I2.put b (.loop st pd fi2 F2' ps2 asg2 body2)):=by
      intro st pd
      obtain ⟨s3,e3⟩:=j4.turn hg2 rfl hl2 hp (.loop fid2 st pd fi2 F2 ps2 asg2 body2) (.loop st pd fi2 F2' ps2 asg2 body2)
       ⟨b,F2',hp,hro,by rw [IH.get_put,if_pos rfl],hF2.mono (nb j4 hg2 rfl hl2 _),hi5⟩
      exact ⟨s3,Ex.trans hs j4 hall e3⟩
     have hcond:(decide (roN≤b) &&args'.length==ps.length)=true:=by simp [hro];simpa using hlen
     cases x with
     |normal=>
      obtain ⟨a,c⟩:=fin .ready none
      have hev:evYield self b args' I=some (.bool true,I2.put b (.loop .ready none fi2 F2' ps2 asg2 body2)):=by
       simp only [evYield,hgb]
       rw [if_pos hcond,k2]
       simp only [hgb1]
       rw [j2]
       simp only [hgb2]
      rw [hev]
      exact ⟨_,_,_,_,_,_,j1,rfl,.bool true,a,c⟩
     |ret=>
      obtain ⟨a,c⟩:=fin .done (some .ret)
      have hev:evYield self b args' I=some (.bool false,I2.put b (.loop .done (some .ret) fi2 F2' ps2 asg2 body2)):=by
       simp only [evYield,hgb]
       rw [if_pos hcond,k2]
       simp only [hgb1]
       rw [j2]
       simp only [hgb2]
      rw [hev]
      exact ⟨_,_,_,_,_,_,j1,rfl,.bool false,a,c⟩
     |exit id=>
      obtain ⟨a,c⟩:=fin .done (some (.exit id))
      have hev:evYield self b args' I=some (.bool false,I2.put b (.loop .done (some (.exit id)) fi2 F2' ps2 asg2 body2)):=by
       simp only [evYield,hgb]
       rw [if_pos hcond,k2]
       simp only [hgb1]
       rw [j2]
       simp only [hgb2]
      rw [hev]
      exact ⟨_,_,_,_,_,_,j1,rfl,.bool false,a,c⟩
     |panic v=>cases j1
    ·cases j1
   ·cases k1
 ·cases h
theorem Good.toCall {run:Option (Value×IH)} (h:Good P hint sh K r Γ Pu H I run):∃ v I1,run=some (v,I1)∧Good P hint sh K r Γ Pu H I (some (v,I1)):=by
 obtain ⟨t,H1,Γ1,Pu1,v,I1,a,b,c⟩:=h
 exact ⟨v,I1,b,t,H1,Γ1,Pu1,v,I1,a,rfl,c⟩
theorem gInvoke_ok (hs:Sim P hint sh Γ Pu H I) (ok:SelfOK P hint sh sf self) {f:FuncId} {a c:List Value} {args:List TV} {args':List Value} (h:gInvoke P sf H f args K=some r) (ha:GRs Γ Pu I args (a++args'++c)):
  Good P hint sh K r Γ Pu H I (resV (endRes (evInvoke P self I (.func (.func f) ⟨a⟩ ⟨c⟩) args'))):=by
 unfold gInvoke at h
 unfold evInvoke
 split at h
 ·rename_i fn hfn
  simp only [hfn]
  split at h
  ·rename_i hb
   simp only [hb]
   obtain ⟨v,I1,e1,e2⟩:=(gExtern_ok (P:=P) hs h ha).toCall
   simp only [e1,endRes,resV]
   exact e2
  ·rename_i hb
   simp only [hb]
   obtain ⟨t,H1,Γ1,Pu1,v,I1,k1,k2,k3⟩:=ok.call h hs ha
   simp only [k2,endRes,resV]
   exact ⟨t,H1,Γ1,Pu1,v,I1,k1,rfl,k3⟩
 ·cases h
theorem max_eq (x y:Int):(if y>x then y else x)=(bif ilt x y then y else x):=by
 rw [ilt_eq]
 by_cases h:x<y
 ·rw [if_pos h];simp [h]
 ·rw [if_neg h];simp [h]
theorem gBuiltin_ok {sh:ShT} (hs:Sim P hint sh Γ Pu H I) {b:Builtin} {ts:Array TypeId} {ty:TypeId} {args:List TV} {args':List Value} (h:gBuiltin std P sh H b ts args K=some r) (ha:GRs Γ Pu I args args'):Good P hint sh K r Γ Pu H I (resV (evBuiltin P I b ts ty args')):=by
 unfold gBuiltin at h
 split at h
 ·cases ha with |cons x y=>cases y with |cons y z=>cases z;exact gAppendN_ok hs h x y
 ·cases ha with |cons x y=>
  cases y
  split at h
  ·rename_i t ht
   simp only [evBuiltin,ht]
   exact gLenN_ok hs h x
  ·cases h
 ·exact gMaxMin_ok (g:=Builtin.max2) hs (fun k n k' m=>by simp only [Builtin.max2,max_eq]) (fun x rest e=>by rw [e];rfl) h ha
 ·exact gMaxMin_ok (g:=Builtin.min2) hs (fun k n k' m=>by
   simp only [Builtin.min2]
   have:(if m<n then m else n)=(bif ilt m n then m else n):=by
    rw [ilt_eq]
    by_cases h:m<n
    ·rw [if_pos h];simp [h]
    ·rw [if_neg h];simp [h]
   rw [this]) (fun x rest e=>by rw [e];rfl) h ha
 ·cases ha with |cons x y=>cases y;exact gSliceData_ok hs h x
 ·replace h:=bif_some h;obtain ⟨hb,h⟩:=h
  cases ha with |cons x y=>cases y with |cons y z=>cases z;exact gUString_ok hs h x y hb
 ·cases h
theorem gCallOp_ok {sh:ShT} (hs:Sim P hint sh Γ Pu H I) (ok:SelfOK P hint sh sf self) {ρ:Operand→TV} {ρ':Operand→Value} (hρ:∀ x,GR Γ Pu I (ρ x) (ρ' x)) {c:Call} {ty:TypeId} (h:gCallOp std P sh sf ρ H c K=some r):Good P hint sh K r Γ Pu H I (resV (evCallOp P self ρ' I c ty)):=by
 unfold gCallOp at h
 unfold evCallOp
 have hargs:=GRs.map hρ c.args.toList
 split at h
 ·rename_i b hc
  simp only [hc]
  exact gBuiltin_ok hs h hargs
 ·rename_i f hc
  simp only [hc]
  have hf:=hρ f
  split at h
  ·rename_i l hfe
   rw [hfe] at hf
   generalize ρ' f=fv at hf
   cases hf with |yld hl hp=>
   obtain ⟨v,I1,e1,e2⟩:=(gYield_ok hs ok h hl hp hargs).toCall
   simp only [e1,resV]
   exact e2
  ·rename_i fn first cap hfe
   rw [hfe] at hf
   generalize ρ' f=fv at hf
   cases hf with |fn a b=>
   exact gInvoke_ok hs ok h ((a.append hargs).append b)
  ·cases h
 ·cases h
theorem nilIf_ok {op:BinOp} {t:TypeId} {x y:Operand} {a b:TV} {a' b':Value} {q:Bool} (h:nilIf P op t x y a b=some q) (ha:GR Γ Pu I a a') (hb:GR Γ Pu I b b'):resV (evBin P I op t x y a' b')=some (.bool q,I):=by
 unfold nilIf at h
 split at h
 ·rename_i ms hu
  cases ha;cases hb
  replace h:=bif_some h;obtain ⟨hc,h⟩:=h
  have ne:evEq P I t .nilIface .nilIface=none:=by unfold evEq;rw [hu]
  have guard:∀ op,eqGuard op t x y .nilIface .nilIface=pure ():=by
   intro op
   cases x with
   |const c=>exact eqGuard_nil_constL ..
   |_=>cases y with
    |const c=>exact eqGuard_nil_constR ..
    |_=>cases hc
  have he:runP P (Op.equal t .nilIface .nilIface)=some true:=by
   unfold Op.equal
   show runP P (Op.equalIn (9999+1) t .nilIface .nilIface)=_
   unfold Op.equalIn
   rw [runP_bind _ _ _ (runP_underlying hu)]
   rfl
  have go:∀ (neg:Bool),runP P (do eqGuard (if neg then .neq else .eql) t x y .nilIface .nilIface;Go.binOp (if neg then .neq else .eql) t .nilIface .nilIface)=some (.bool (if neg then false else true)):=by
   intro neg
   rw [guard,runP_bind _ _ _ (runP_pure P ())]
   cases neg with
   |false=>simp only [Bool.false_eq_true,if_false];unfold Go.binOp;exact (runP_bind P _ _ he).trans rfl
   |true=>simp only [if_true];unfold Go.binOp;exact (runP_bind P _ _ he).trans rfl
  split at h
  ·cases h
   have g:=go false
   simp only [Bool.false_eq_true,if_false] at g
   simp only [evBin,evEqOp,ne,free,free1,Bool.and_self,if_true,Bool.false_eq_true,if_false,g,resV]
  ·cases h
   have g:=go true
   simp only [if_true] at g
   simp only [evBin,evEqOp,ne,free,free1,Bool.and_self,if_true,g,resV]
  ·cases h
 ·cases h
theorem gOp_ok {sh:ShT} (hs:Sim P hint sh Γ Pu H I) (ok:SelfOK P hint sh sf self) {ρ:Operand→TV} {ρ':Operand→Value} (hρ:∀ x,GR Γ Pu I (ρ x) (ρ' x)) {o:Oper} (h:gOp std P sh sf ρ H o K=some r):Good P hint sh K r Γ Pu H I (resV (evOp P self ρ' I o)):=by
 unfold gOp at h
 unfold evOp
 split at h<;>(rename_i ho;try simp only [ho])
 ·exact Good.same hs h (hρ _)
 ·exact Good.same hs h (hρ _)
 ·exact gPick_ok hs h (hρ _) (hρ _) (hρ _)
 ·exact gAlloc_ok hs h
 ·exact gBox_ok hs h (hρ _)
 ·exact gBuild_ok hs h (PsG.map hρ _)
 ·exact gBuildSliceN_ok hs h (PsG.map hρ _)
 ·exact gLoadN_ok hs h (hρ _)
 ·exact gStoreN_ok hs h (hρ _) (hρ _)
 ·exact gNil_ok hs h (hρ _)
 ·split at h
  ·rename_i hq
   rw [nilIf_ok hq (hρ _) (hρ _)]
   exact Good.same hs h (.bool _)
  ·exact gBin_ok hs h (hρ _) (hρ _)
 ·exact gUn_ok hs h (hρ _)
 ·exact gConvert_ok hs h (hρ _)
 ·simp only [plainFn,if_true,resV]
  exact Good.same hs h (.fn (GRs.map hρ _) (GRs.map hρ _))
 ·exact gMakeSliceN_ok hs h (hρ _) (hρ _) (fun he=>by
   rename_i t l c
   unfold sameOpd at he
   split at he
   ·rw [beq_true he]
   ·cases he)
 ·exact gSlice_ok hs h (hρ _) (OptR.map hρ _) (OptR.map hρ _) (OptR.map hρ _)
 ·exact gFieldAddr_ok hs h (hρ _)
 ·exact gField_ok hs h (hρ _)
 ·exact gIndexAddrN_ok hs h (hρ _) (ixT_ok (hρ _))
 ·exact gIndex_ok hs h (hρ _) (ixT_ok (hρ _))
 ·exact gRange_ok hs h (hρ _)
 ·exact gMakeMapN_ok hs h (OptR.map hρ _)
 ·exact gLookupN_ok hs h (hρ _) (hρ _)
 ·exact gMapUpdN_ok hs h (hρ _) (hρ _) (hρ _)
 ·exact gMapUpdN_ok hs h (hρ _) (hρ _) (hρ _)
 ·exact gNext_ok hs h (hρ _)
 ·exact gExtract_ok hs h (hρ _)
 ·exact gCallOp_ok hs ok hρ h
 ·cases h
end
end Go.Gv
