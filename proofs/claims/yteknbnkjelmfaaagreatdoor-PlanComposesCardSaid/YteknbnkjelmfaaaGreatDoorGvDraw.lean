/- The pure evaluator's regions are the ideal one's. -/
import Derived.Test.YteknbnkjelmfaaaGreatDoorGvFresh
set_option linter.unusedSimpArgs false
set_option linter.unusedVariables false
namespace Go.Gv
open Go Go.Iv
section
variable {Z:Type} {P:Program} {hint:Hint} {O:Nat->Prop} {Γ Γ1:aN} {Pu Pu1:Nat->Prop} {H H1:GH} {I I1 I2:IH} {r:Z} {sf:fD Z} {self:Self} {sh:bU}
def T3 (fi:FI) (E:GE) (E':En) (E2:GE):Prop:=E2=E\/∃ d c,E2=cO fi d (.bool c) E/\ft fi E' d= .bool c
theorem ei {fi:FI} {k:Nat} {x:Option Z} (h:nu fi k x=some r):x=some r:=by
 unfold nu at h
 grind
theorem xA {fi:FI} {ops:Array Oper} {o:Oper} {E:GE} {E':En} {run skip:GE->Option Z} (h:lZ dS fi ops o E run skip=some r) (he:ER Γ Pu I E E'):
  (cg fi ops E' o=some true/\∃ E2,run E2=some r/\ER Γ Pu I E2 E'/\T3 fi E E' E2)\/(cg fi ops E' o=some false/\∃ E2,skip E2=some r/\ER Γ Pu I E2 E'/\T3 fi E E' E2):=by
 unfold lZ at h;unfold cg;split at h
 .rename_i hg
  simp only [hg];exact .inl ⟨by grind,E,h,he,.inl rfl⟩
 .rename_i j want hg
  simp only [hg];split at h
  .rename_i d hd
   simp only [hd];have hv:GR Γ Pu I (fe fi E d) (ft fi E' d):=by
    unfold fe ft;cases cls fi d with
    |out=>exact .undef _
    |loc=>exact (he d).1
    |tmp=>exact (he d).2
   split at h
   .rename_i b hb
    rw [hb] at hv;have hE2:∀ c,b=c->ER Γ Pu I (cO fi d (.bool c) E) E':=fun c hc=>he.M7 d fi (by grind)
    have hG:∀ c,ft fi E' d= .bool c->T3 fi E E' (cO fi d (.bool c) E):=fun c hc=> .inr ⟨d,c,rfl,hc⟩
    generalize ft fi E' d=v at hv hG;cases hv;rcases jX h with ⟨rfl,h⟩ |⟨rfl,h⟩
    .cases want
     .exact .inr ⟨rfl,_,ei h,hE2 true rfl,hG true rfl⟩
     .exact .inl ⟨rfl,_,ei h,hE2 true rfl,hG true rfl⟩
    .cases want
     .exact .inl ⟨rfl,_,ei h,hE2 false rfl,hG false rfl⟩
     .exact .inr ⟨rfl,_,ei h,hE2 false rfl,hG false rfl⟩
   .rename_i v hb
    rw [hb] at hv;generalize ft fi E' d=v' at hv;cases hv;split at h
    .cases h
    .cases h
    .rename_i h1 h2
     refine .inr ⟨?_,E,h,he,.inl rfl⟩
     grind
   .cases h
  .cases h
theorem jK {o:Option az} {v:Value} {J:IH} (h:an o=some (v,J)):o=some (.val v J)\/(o=some (.skip J)/\v=Go.undef):=by
 unfold an at h
 grind
def B7 (P:Program) (hint:Hint) (sh:bU) (K:GE->GH->Option Z) (KP:GE->Value->GH->Option Z) (r:Z) (Γ:aN) (Pu:Nat->Prop) (H:GH) (I:IH) (D:List Deferred) (run:qx):Prop:=
 (∃ E1 H1 Γ1 Pu1 E1' I1,K E1 H1=some r/\run=some (.normal,E1',I1,D)/\ER Γ1 Pu1 I1 E1 E1'/\au P hint sh Γ1 Pu1 H1 I1/\Ex (bk Γ H I) Γ Pu H I Γ1 Pu1 H1 I1)\/
 (∃ E1 w H1 Γ1 Pu1 E1' I1,KP E1 w H1=some r/\run=some (.panic w,E1',I1,D)/\ER Γ1 Pu1 I1 E1 E1'/\au P hint sh Γ1 Pu1 H1 I1/\Ex (bk Γ H I) Γ Pu H I Γ1 Pu1 H1 I1)
theorem B7.ex {K:GE->GH->Option Z} {KP:GE->Value->GH->Option Z} {D:List Deferred} {run:qx} (hs:au P hint sh Γ Pu H I) (h1:au P hint sh Γ1 Pu1 H1 I1) (e:Ex (bk Γ H I) Γ Pu H I Γ1 Pu1 H1 I1) (h:B7 P hint sh K KP r Γ1 Pu1 H1 I1 D run):B7 P hint sh K KP r Γ Pu H I D run:=by
 rcases h with ⟨E2,H2,Γ2,Pu2,E2',I2,j1,j2,j3,j4,j5⟩ |⟨E2,w,H2,Γ2,Pu2,E2',I2,j1,j2,j3,j4,j5⟩
 .exact .inl ⟨E2,H2,Γ2,Pu2,E2',I2,j1,j2,j3,j4,Ex.trans hs h1 e j5⟩
 .exact .inr ⟨E2,w,H2,Γ2,Pu2,E2',I2,j1,j2,j3,j4,Ex.trans hs h1 e j5⟩
theorem Ae (ok:ej P hint sh sf self) {fi:FI} {ro:Option Nat} {ops:Array Oper} {o:Oper} {rest:List Oper} {E:GE} {E':En} {D:List Deferred} {K2 K:GE->GH->Option Z} {KP:GE->Value->GH->Option Z} (hs:au P hint sh Γ Pu H I) (he:ER Γ Pu I E E')
  (hk:∀ E H,K2 E H=some r->∀ {E' I Γ Pu},au P hint sh Γ Pu H I->ER Γ Pu I E E'->B7 P hint sh K KP r Γ Pu H I D (gE P self fi ro ops rest E' I D))
  (h:lZ dS fi ops o E (fun E=>jH dS P sh sf (dD fi E) H o fun v H=>LM v (fun w=>KP E w H) (K2 (c8 fi E o.dst v) H)) (fun E=>K2 (c8 fi E o.dst (.raw Go.undef)) H)=some r):
  B7 P hint sh K KP r Γ Pu H I D (gE P self fi ro ops (o::rest) E' I D):=by
 rcases xA h he with ⟨hw,E2,h,he2,_⟩ |⟨hw,E2,h,he2,_⟩
 .rcases zI hs ok (cR hs he2) h with ⟨t,H1,Γ1,Pu1,v,I1,k1,k2,k3,k4,k5⟩ |⟨_,w,H1,Γ1,Pu1,I1,k1,k2,k4,k5⟩
  .simp only [yM k3] at k1
   have:=(hk _ _ k1 k4 ((he2.mono (k5.cy hs)).put fi o.dst k3)).ex hs k4 k5;rcases jK k2 with e |⟨e,rfl⟩
   .simp only [gE,hw,e];exact this
   .simp only [gE,hw,e];exact this
  .refine .inr ⟨E2,w,H1,Γ1,Pu1,E',I1,k1,?_,he2.mono (k5.cy hs),k4,k5⟩
   simp only [gE,hw,k2]
 .have:=hk _ _ h hs (he2.put fi o.dst (.raw Go.undef))
  simp only [gE,hw];exact this
theorem Qm (ok:ej P hint sh sf self) {fi:FI} {ro:Option Nat} {ops:Array Oper}:∀ {l:List Oper} {E:GE} {E':En} {H:GH} {I:IH} {Γ:aN} {Pu:Nat->Prop} {D:List Deferred} {K:GE->GH->Option Z} {KP:GE->Value->GH->Option Z},qk dS P sh sf fi ops l E H K KP=some r->au P hint sh Γ Pu H I->ER Γ Pu I E E'->
  B7 P hint sh K KP r Γ Pu H I D (gE P self fi ro ops l E' I D):=by
 intro l
 induction l with
 |nil=>intro E E' H I Γ Pu D K KP h hs he;exact .inl ⟨E,H,Γ,Pu,E',I,h,rfl,he,hs,Ex.refl hs⟩
 |cons o rest ih=>
  intro E E' H I Γ Pu D K KP h hs he;simp only [qk] at h;exact Ae ok (K2:=fun E H=>qk dS P sh sf fi ops rest E H K KP) hs he (fun E H hk {E' I Γ Pu} hs he=>ih hk hs he) h
def TE (P:Program) (o:Oper):TypeId:=match o.op with
 | .buildSlice t _ _=>match cu P t with
  |some (e,_)=>e
  |none=>0
 |_=>0
theorem IN:∀ {cs:List TV} {bs:List UInt8} {vs:List Value},zE cs=some bs->br Γ Pu I cs vs->vs=bs.map fun c=>(.int .u8 c.toNat:Value):=by
 intro cs
 induction cs with
 |nil=>intro bs vs h hr;cases h;cases hr;rfl
 |cons c r ih=>
  intro bs vs h hr;unfold zE at h;split at h
  .grind
  .rename_i c' r' heq
   cases heq;split at h
   .rename_i l hl
    cases h;cases hr with |cons a b=>
    cases a
    grind
   .cases h
  .cases h
theorem NX {fi:FI} {ops:Array Oper} {E:GE} {E':En} {o o2:Oper} {d d2:Tmp} {bs:List UInt8} (hs:au P hint sh Γ Pu H I) (he:ER Γ Pu I E E') (h:NQ P fi E o o2=some (d,d2,bs)):
  ∃ v J,aG P self (eQ fi E') I o=some (.val v J)/\aG P self (eQ fi (dT fi E' (some d) v)) J o2=some (.val v (I.new (.cells (bs.map fun c=> .int .u8 c.toNat) (TE P o) 0 true true)))/\
   o.dst=some d/\o2.dst=some d2/\o.guard=none/\o2.guard=none/\
   GR Γ (fun b=>Pu b\/b=I.n) (I.new (.cells (bs.map fun c=> .int .u8 c.toNat) (TE P o) 0 true true)) (.aB .byte bs (some false) false) v:=by
 unfold NQ at h;split at h
 .rename_i t len parts src dst d' d0 d20 ho ho2 hd hd2 hg hg2
  replace h:=ad h;obtain ⟨hb,h⟩:=h;replace hb:=ae hb;obtain ⟨hb,hb4⟩:=hb;replace hb:=ae hb;obtain ⟨hb,hb3⟩:=hb;replace hb:=ae hb;obtain ⟨hb1,hb2⟩:=hb;have e1:=beq_true hb1;have e2:=beq_true hb2;have e3:=beq_true hb3;have e4:d0<fi.nt:=by simpa using hb4
  split at h
  .rename_i e0 e i hu hes
   split at h
   .rename_i z hue hz
    replace h:=ad h;obtain ⟨hb,h⟩:=h;replace hb:=ae hb;obtain ⟨hb,hc5⟩:=hb;replace hb:=ae hb;obtain ⟨hb,hc4⟩:=hb;replace hb:=ae hb;obtain ⟨hb,hc3⟩:=hb;replace hb:=ae hb;obtain ⟨hc1,hc2⟩:=hb;split at h
    .rename_i cells hf
     obtain ⟨vs',hf',hr'⟩:=jQ (vs:=⟨eY z.cells.toList len⟩) hf hc2 (D7.map (cR hs he) parts.toList) (tf (eB hc4) len);split at h
     .rename_i bs0 hbs
      replace h:=ad h;obtain ⟨hlen,h⟩:=h;cases h;have hvs:=IN hbs hr';have hl:=beq_true hlen;subst e1 e2 e3;have elt:TE P o=e:=by unfold TE;rw [ho];simp only [hes]
      have hlu:len<ff:=by
       have:=aF hc1;have h2:len<=len*(i.size+1):=Nat.le_mul_of_pos_right _ (by omega);unfold ff;have:(2:Nat)^24<2^64:=by decide
       omega
      refine ⟨.slice (some ⟨I.n,0,none⟩) len len,bO I e vs'.toList,?_,?_,hd,hd2,hg,hg2,?_⟩
      .unfold aG
       simp only [ho,aZ,hes,hz];rw [if_pos (by simp [(D7.map (cR hs he) parts.toList).ok hc2];simp_all),if_pos (beq_true hc3),hf']
      .rw [elt]
       unfold aG;simp only [ho2];have hop:eQ fi (dT fi E' (some d) (.slice (some ⟨I.n,0,none⟩) len len)) (.tmp d)= .slice (some ⟨I.n,0,none⟩) len len:=by
        show ft fi (sH fi d _ E') d=_
        rw [o5,if_pos ⟨rfl,e4⟩]
       rw [hop];simp only [aQ,hu,gT,beq_self_eq_true,if_true,hue];have hgn:(bO I e vs'.toList).get I.n=some (.cells vs'.toList e 0 true false):=by unfold bO;rw [IH.ay,if_pos rfl]
       rw [hgn];simp only [beq_self_eq_true,Bool.or_false,Bool.and_true,hs.ro,decide_true,if_true];have:(bO I e vs'.toList).put I.n (.cells vs'.toList e 0 true true)=I.new (.cells vs'.toList e 0 true true):=IH.GS _ _ _
       grind
      .rw [elt]
       refine .aB ?_ (fun c hc=>by cases hc;rfl) (fun hc=>by cases hc);refine .inr (.inl ⟨I.n,0,len,_,e,0,true,true,by rw [←hl],.inr rfl,by rw [IH.ay,if_pos rfl],.inr ⟨hlu,by omega,?_⟩,?_,?_⟩)
       .simp [Sh.sz,hl]
       .simp [Sh.sz]
       .exact rf
     .cases h
    .cases h
   .cases h
  .cases h
 .cases h
theorem MV (ok:ej P hint sh sf self) {fi:FI} {ro:Option Nat} {ops:Array Oper}:∀ (n:Nat) {l:List Oper} {E:GE} {E':En} {H:GH} {I:IH} {Γ:aN} {Pu:Nat->Prop} {D:List Deferred} {K:GE->GH->Option Z} {KP:GE->Value->GH->Option Z},l.length<=n->ui dS P sh sf fi ops l E H K KP=some r->au P hint sh Γ Pu H I->ER Γ Pu I E E'->
  B7 P hint sh K KP r Γ Pu H I D (gE P self fi ro ops l E' I D):=by
 intro n
 induction n with
 |zero=>
  intro l E E' H I Γ Pu D K KP hn h hs he;cases l with
  |nil=>exact .inl ⟨E,H,Γ,Pu,E',I,h,rfl,he,hs,Ex.refl hs⟩
  |cons=>grind
 |succ n ih=>
  intro l E E' H I Γ Pu D K KP hn h hs he
  match l,hn,h with
  | [],hn,h=>grind
  | [o],hn,h=>
   exact Ae ok (K2:=K) (rest:= []) hs he (fun E H hk {E' I Γ Pu} hs he=> .inl ⟨E,H,Γ,Pu,E',I,hk,rfl,he,hs,Ex.refl hs⟩) h
  |o::o2::rest,hn,h=>
   simp only [ui] at h;split at h
   .rename_i d d2 bs hp
    obtain ⟨v,J,a1,a2,a3,a4,a5,a6,a7⟩:=NX (self:=self) (ops:=ops) hs he hp;obtain ⟨s1,x1⟩:=hs.Hd (bs.map fun c=> .int .u8 c.toNat) (TE P o) 0 true true;have he1:=((he.mono (x1.cy hs)).put fi (some d) a7).put fi (some d2) a7;have:=(ih (l:=rest) (D:=D) (by grind) h s1 he1).ex hs s1 x1;have w1:cg fi ops E' o=some true:=by unfold cg;rw [a5]
    have w2:cg fi ops (dT fi E' (some d) v) o2=some true:=by unfold cg;rw [a6]
    simp only [gE,w1,a1,a3,w2,a2,a4];exact this
   .exact Ae ok (K2:=fun E H=>ui dS P sh sf fi ops (o2::rest) E H K KP) (rest:=o2::rest) hs he (fun E H hk {E' I Γ Pu} hs he=>ih (by grind) hk hs he) h
def QR:Value->Option Nat
 | .pointer (some a)=>some a.block
 | .slice (some a) _ _=>some a.block
 |_=>none
theorem xh {t:TypeId} {a v:Value} {J:IH} (h:dc P I t a=some (.val v J)) (hb:∀ b,QR a=some b->I2.get b=I.get b):dc P I2 t a=some (.val v I2):=by
 unfold dc at h ⊢;split at h
 .rename_i b off
  have hg:=hb b rfl;have e:l7 P I2 t b off=l7 P I t b off:=by simp only [l7,IH.bf,hg]
  rw [e];split at h
  .grind
  .cases h
 .cases h
def U2:Value->Bool
 | .slice _ l _=>l !=0
 |_=>true
theorem zb {src dst:TypeId} {a v:Value} {J:IH} (h1:∀ e,¬ (P.underlying src=some .string/\P.underlying dst=some (.slice e))) (h2:∀ e e',¬ (P.underlying src=some (.slice e)/\P.underlying dst=some (.slice e')))
  (h:aQ P I src dst a=some (.val v J)) (hb:∀ b,QR a=some b->U2 a=true->I2.get b=I.get b):aQ P I2 src dst a=some (.val v I2):=by
 unfold aQ at h ⊢;split at h
 .split at h
  .cases h;rfl
  .cases h
 .split at h
  .cases h;rfl
  .cases h
 .split at h
  .cases h;rfl
  .cases h
 .grind
 .grind
 .unfold cP at h ⊢
  split at h
  .cases h;rfl
  .rename_i b off len c hu
   split at h
   .grind
   .rename_i hl
    have hg:=hb b rfl (by simp [U2,hl]);have e:I2.bf b off len=I.bf b off len:=by simp only [IH.bf,hg]
    rw [if_neg hl,e];split at h
    .rename_i cs hcs
     split at h
     .grind
     .cases h
    .cases h
  .cases h
 .unfold dB at h ⊢
  split at h
  .cases h;rfl
  .rename_i b off
   have hg:=hb b rfl rfl;rw [hg];split at h
   .grind
   .cases h
  .cases h
 .unfold cz at h ⊢
  split at h
  .cases h;rfl
  .rename_i b off
   have hg:=hb b rfl rfl;rw [hg];split at h
   .grind
   .cases h
  .cases h
 .cases h
def tR:Value->Bool
 | .int _ _ | .string _ | .bool _ | .agg _=>true
 |_=>false
theorem EG {t:TypeId} {a b:Value} (ha:tR a=true) (hb:tR b=true):dV P I2 t a b=dV P I t a b:=by
 cases a<;>first |(cases ha;done) |skip
 all_goals cases b<;>first |(cases hb;done) |skip
 all_goals
  unfold dV
  grind
theorem Ku {op:BinOp} {t:TypeId} {x y:Operand} {a b v:Value} {J:IH} (ha:tR a=true) (hb:tR b=true) (h:aX P I op t x y a b=some (.val v J)):aX P I2 op t x y a b=some (.val v I2):=by
 have heq:∀ neg,bP P I neg t x y a b=some (.val v J)->bP P I2 neg t x y a b=some (.val v I2):=by
  intro neg h;have e:=EG (P:=P) (I:=I) (I2:=I2) (t:=t) ha hb;simp only [bP] at h ⊢;split at h
  .grind
  .cases h;rfl
  .simp only [e]
   split at h
   .cases h;rfl
   .split at h
    .rename_i hf
     rw [if_pos hf];split at h
     .grind
     .cases h
    .cases h
 simp only [aX] at h ⊢;split at h
 .exact heq _ h
 .exact heq _ h
 all_goals
  cases a<;>first |(cases ha;done) |skip
  all_goals cases b<;>first |(cases hb;done) |skip
  all_goals simp only [reduceCtorEq] at h ⊢
  all_goals first
   |done
   |(cases h;rfl)
   |(
     split at h
     .grind
     .cases h)
theorem wT {t:TV} {v:Value} (h:Ev t=true) (hr:GR Γ Pu I t v):tR v=true:=by
 cases hr<;>first |rfl |(cases h)
theorem Fo {o:Option Value} {v:Value} {J:IH} (h:Iv.valOf I o=some (.val v J)):Iv.valOf I2 o=some (.val v I2):=by
 unfold Iv.valOf at h ⊢;split at h
 .cases h;rfl
 .cases h
theorem mX {s:Sem Value} {v:Value} {J:IH} (h:cI P I s=some (.val v J)):cI P I2 s=some (.val v I2):=by
 unfold cI at h ⊢;split at h
 .grind
 .cases h
theorem Ks {t:TypeId} {x:Value} (hx:(∃ s,x= .string s)\/(∃ a l c,x= .slice a l c)\/x= .map none\/∃ b,x= .map (some b)/\I2.get b=I.get b):fI P I2 t x=fI P I t x:=by
 unfold fI
 grind
theorem BX {t:TypeId} {x k:Value} {ok:Bool} {v:Value} {J:IH} (h:cN P I t x k ok=some (.val v J)) (hb:∀ b,x= .map (some b)->I2.get b=I.get b):cN P I2 t x k ok=some (.val v I2):=by
 unfold cN at h ⊢;split at h
 .simp only [hb _ rfl]
  split at h
  .rename_i es ck hg
   split at h
   .rename_i hk
    rw [if_pos hk];split at h
    .cases h;rfl
    .split at h
     .cases h;rfl
     .cases h
    .cases h
   .cases h
  .cases h
 .grind
 .cases h
theorem bA.Ap {e:Sh} {xs:List e.ty} {v:Value} (h:bA Pu I (.bH e) xs [v]):v= .slice none 0 0\/∃ b off len cap,v= .slice (some ⟨b,off,none⟩) len cap/\(Pu b\/len=0):=by
 unfold bA at h
 grind
theorem mJ {l:Loc} {off len:Nat} {v:Value} (h:fF l off len v):v= .slice none 0 0\/∃ b o o' n cap,v= .slice (some ⟨b,o,none⟩) n cap/\l.pos=some (b,o'):=by
 unfold fF at h
 grind
theorem Aj {ρ:Operand->TV} {ρ':Operand->Value} {o:Oper} {ids:List Nat} {p:Bool} {v:Value} {J:IH} (hk:kindOf P o= .read) (ht:kG ρ o=some (ids,p)) (hρ:∀ x,GR Γ Pu I (ρ x) (ρ' x)) (h:aG P self ρ' I o=some (.val v J))
  (h1:∀ id∈ids,∀ l b x,Γ id=some l->l.pos=some (b,x)->I2.get b=I.get b) (h2:p=true->∀ b,Pu b->I2.get b=I.get b):aG P self ρ' I2 o=some (.val v I2):=by
 unfold kG at ht;split at ht
 .rename_i t a ho
  simp only [aG,ho] at h ⊢;have hv:=hρ a;generalize ρ' a=w at hv h;generalize ρ a=q at ht hv;refine xh h fun b hb=>?_
  split at ht
  .cases ht
   cases hv with |ptr hl hp=>cases hb;grind
  .cases ht
   cases hv with |iO hl hp=>cases hb;grind
  .cases ht
   cases hv with |nL hb' _ _ _=>cases hb;grind
  .cases ht
 .rename_i op t x y yt ho
  simp only [aG,ho] at h ⊢;replace ht:=ad ht;obtain ⟨hc,ht⟩:=ht;simp only [zae] at hc;exact Ku (wT hc.1 (hρ x)) (wT hc.2 (hρ y)) h
 .rename_i t x k ok ho
  simp only [aG,ho] at h ⊢;have hv:=hρ x;generalize ρ' x=w at hv h;generalize ρ x=q at ht hv;refine BX h fun b hb=>?_
  split at ht
  .cases ht
   cases hv with |mp hl hm=>
   unfold Oj at hm
   grind
  .cases ht;cases hv;cases hb
  .cases ht
 .rename_i c ho
  obtain ⟨callee,args,ats⟩:=c;simp only at ht;split at ht
  .split at ht
   .rename_i x hx
    simp only [aG,ho,dt,hx,List.map_cons,List.map_nil,bj] at h ⊢;have hv:=hρ x;generalize ρ' x=w at hv h;generalize ρ x=q at ht hv;have hx:(∃ s,w= .string s)\/(∃ a l c,w= .slice a l c)\/w= .map none\/∃ b,w= .map (some b)/\I2.get b=I.get b:=by
     split at ht
     .cases hv;grind
     .cases hv with |aB he _ _=>rcases he.Ap with h |⟨_,_,_,_,h,_⟩<;>exact .inr (.inl ⟨_,_,_,h⟩)
     .cases hv with |all _ he=>rcases mJ he with h |⟨_,_,_,_,_,h,_⟩<;>exact .inr (.inl ⟨_,_,_,h⟩)
     .cases hv with |own _ _ he=>rcases mJ he with h |⟨_,_,_,_,_,h,_⟩<;>exact .inr (.inl ⟨_,_,_,h⟩)
     .cases hv;grind
     .cases hv with |mp hl hm=>
      cases ht;unfold Oj at hm
      grind
     .cases ht
    split at h
    .rename_i t hat
     simp only [Ks (P:=P) (I:=I) (I2:=I2) hx];exact Fo h
    .cases h
   .cases ht
  .simp only [aG,ho,dt,bj] at h ⊢
   split at h
   .rename_i hf
    rw [if_pos hf];exact mX h
   .cases h
  .simp only [aG,ho,dt,bj] at h ⊢
   split at h
   .rename_i hf
    rw [if_pos hf];exact mX h
   .cases h
  .simp only [aG,ho,dt] at h ⊢
   generalize args.toList.map ρ'=l at h ⊢;unfold bj at h ⊢
   grind
  .cases ht
 .rename_i src dst x ho
  simp only [aG,ho] at h ⊢;have hv:=hρ x;generalize ρ' x=w at hv h;generalize ρ x=q at ht hv;refine zb (fun e he=>?_) (fun e e' he=>?_) h fun b hb hnz=>?_
  .simp only [kindOf,ho,he.1,he.2] at hk;cases hk
  .simp only [kindOf,ho,he.1,he.2] at hk;cases hk
  .split at ht
   .cases ht
    cases hv with |all hl he=>
    rcases mJ he with rfl |⟨_,_,_,_,_,rfl,hp⟩
    .cases hb
    .cases hb;grind
   .cases ht
    cases hv with |own hl _ he=>
    rcases mJ he with rfl |⟨_,_,_,_,_,rfl,hp⟩
    .cases hb
    .cases hb;grind
   .cases hv;cases hb
   .cases hv;cases hb
   .cases hv;cases hb
   .cases ht
    cases hv with |aB he _ _=>
    rcases he.Ap with rfl |⟨_,_,_,_,rfl,hp⟩
    .cases hb
    .cases hb
     rcases hp with hp |rfl
     .grind
     .cases hnz
   .cases ht
 .cases ht
theorem yh {t:TV} {v:Value} (h:l9 t=true) (hr:GR Γ Pu I t v):kT v v=true:=by
 cases hr with
 |aB he _ _=>rcases he.Ap with rfl |⟨_,_,_,_,rfl,_⟩<;>simp [kT]
 |all _ he=>rcases mJ he with rfl |⟨_,_,_,_,_,rfl,_⟩<;>simp [kT]
 |own _ _ he=>rcases mJ he with rfl |⟨_,_,_,_,_,rfl,_⟩<;>simp [kT]
 |raw v=>unfold l9 at h;simp only at h;split at h<;>first |(simp [kT];done) |cases h
 |agg |ja |fn |mo |undef=>cases h
 |mp _ he=>obtain ⟨q,rfl⟩:=he.map;simp [kT]
 |_=>simp [kT]
theorem qa {cs:List TV} {vs:List Value} (h:cs.all l9=true) (hr:br Γ Pu I cs vs):lX vs vs=true:=by
 induction cs generalizing vs with
 |nil=>cases hr;rfl
 |cons c r ih=>
  cases hr with |cons a b=>
  simp only [List.all_cons,zae] at h;simp only [lX,yh h.1 a,ih h.2 b,zai]
theorem Ho {v:Value} (h:kT v v=true):l8 v v=true:=by
 cases v<;>first |exact h |cases h
theorem Bc {t:TV} {v:Value} (h:F7 t=true) (hr:GR Γ Pu I t v):l8 v v=true:=by
 unfold F7 at h;split at h
 .cases hr with |agg hs=>exact qa h hs
 .cases hr with |ja hs=>exact qa h hs
 .cases hr with |fn ha hc=>
  simp only [zae] at h;simp only [l8,beq_self_eq_true,Bool.true_and];rw [qa h.1 ha,qa h.2 hc];rfl
 .exact Ho (yh h hr)
theorem Br {ρ':Operand->Value} {o:Oper} {J:IH} (hk:kindOf P o= .read):aG P self ρ' I o≠some (.skip J):=by
 intro h;cases ho:o.op with
 |load t a=>
  simp only [aG,ho,dc] at h
  grind
 |lookup t x k ok=>
  simp only [aG,ho,cN] at h
  grind
 |binOp op t x y yt=>
  simp only [aG,ho,aX,bP] at h
  grind
 |convert src dst x=>
  simp only [aG,ho,aQ,cP,dB,cz,fc] at h;split at h
  all_goals first
   |(exfalso;rename_i e1 e2;simp only [kindOf,ho,e1,e2] at hk;grind)
   |grind
 |call c=>
  obtain ⟨callee,args,ats⟩:=c;cases callee with
  |builtin b=>
   simp only [aG,ho,dt] at h;unfold bj at h;split at h
   all_goals first
    |(simp [kindOf,ho] at hk;done)
    |(
      simp only [cI,Iv.valOf] at h
      grind)
    |grind
  |value f=>simp [kindOf,ho] at hk
  |invoke r n=>simp [kindOf,ho] at hk
 |_=>simp [kindOf,ho] at hk
structure Ec where
 Γ:aN
 Pu:Nat->Prop
 H:GH
 I:IH
structure Hi (Γ:aN) (Pu:Nat->Prop) (H:GH) (I:IH) (Γ1:aN) (Pu1:Nat->Prop) (H1:GH) (I1:IH):Prop where
 g:∀ id l,Γ id=some l->Γ1 id=some l
 p:∀ b,Pu b->Pu1 b
 i:∀ b,Pu b->I1.get b=I.get b
 hn:H.n<=H1.n
 ck:H.ck<=H1.ck
 wx:∀ id,id<H.n->H1.aH id=none\/H1.aH id=H.aH id\/∃ s,H1.aH id=some s/\H.ck<=s
 jv:∀ id l b x s,H.aH id=some s->H1.aH id=some s->Γ id=some l->l.pos=some (b,x)->I1.get b=I.get b
theorem Hi.refl:Hi Γ Pu H I Γ Pu H I:=⟨fun _ _ h=>h,fun _ h=>h,fun _ _=>rfl,zal _,zal _,fun _ _=> .inr (.inl rfl),fun _ _ _ _ _ _ _ _ _=>rfl⟩
theorem Hi.of {O:Nat->Prop} (hs:au P hint sh Γ Pu H I) (h:Ex O Γ Pu H I Γ1 Pu1 H1 I1) (ho:∀ b,Pu b->¬ O b):Hi Γ Pu H I Γ1 Pu1 H1 I1:=
 ⟨h.g,h.p,fun b hb=>h.cE b (hs.iT hb) (ho b hb),h.hn,h.ck,h.wx,h.jv⟩
theorem Hi.trans {Γ2:aN} {Pu2:Nat->Prop} {H2:GH} (hs:au P hint sh Γ Pu H I) (h:Hi Γ Pu H I Γ1 Pu1 H1 I1) (k:Hi Γ1 Pu1 H1 I1 Γ2 Pu2 H2 I2):Hi Γ Pu H I Γ2 Pu2 H2 I2 where
 g:=fun id l x=>k.g id l (h.g id l x)
 p:=fun b x=>k.p b (h.p b x)
 i:=fun b hb=>(k.i b (h.p b hb)).trans (h.i b hb)
 hn:=Nat.le_trans h.hn k.hn
 ck:=Nat.le_trans h.ck k.ck
 wx:=fun id hid=>by
  rcases k.wx id (Nat.lt_of_lt_of_le hid h.hn) with x |x |⟨s,x,y⟩
  .exact .inl x
  .rw [x];exact h.wx id hid
  .exact .inr (.inr ⟨s,x,Nat.le_trans h.ck y⟩)
 jv:=fun id l b x s hs0 hs2 hl hp=>by
  have hid:=hs.aT id l hl;have hlt:=hs.st id s hs0;rcases k.wx id (Nat.lt_of_lt_of_le hid h.hn) with y |y |⟨s',y,z⟩
  .grind
  .rw [y] at hs2
   exact (k.jv id l b x s hs2 (y.trans hs2) (h.g id l hl) hp).trans (h.jv id l b x s hs0 hs2 hl hp)
  .rw [y] at hs2;cases hs2
   have:=h.ck;omega
theorem Hi.cy (h:Hi Γ Pu H I Γ1 Pu1 H1 I1):cp Γ Pu I Γ1 Pu1 I1:=⟨h.g,h.p,h.i⟩
def Ky (P:Program) (hint:Hint) (sh:bU) (H0:GH) (I0:IH) (Γ:aN) (Pu:Nat->Prop) (H:GH) (I:IH):Prop:=
 ∃ Γ0 Pu0,au P hint sh Γ0 Pu0 H0 I0/\Hi Γ0 Pu0 H0 I0 Γ Pu H I
theorem Ky.step {H0:GH} {I0:IH} (h:Ky P hint sh H0 I0 Γ Pu H I) (e:Hi Γ Pu H I Γ1 Pu1 H1 I1):Ky P hint sh H0 I0 Γ1 Pu1 H1 I1:=by
 obtain ⟨Γ0,Pu0,s0,e0⟩:=h;exact ⟨Γ0,Pu0,s0,Hi.trans s0 e0 e⟩
theorem yC {f g:Nat->Option Nat} {ids:List Nat} (h:vW (ids.map f) (ids.map g)=true):∀ id∈ids,∃ s,f id=some s/\g id=some s:=by
 induction ids with
 |nil=>grind
 |cons a r ih=>
  simp only [List.map_cons] at h;cases hf:f a with
  |none=>rw [hf] at h;cases h
  |some x=>
   cases hg:g a with
   |none=>rw [hf,hg] at h;cases h
   |some y=>
    rw [hf,hg] at h;simp only [vW,zae] at h
    simp_all
def Rg (P:Program) (hint:Hint) (sh:bU) (o:Option GH) (I0:IH) (Γ:aN) (Pu:Nat->Prop) (H:GH) (I:IH):Prop:=
 match o with
 |some H0=>Ky P hint sh H0 I0 Γ Pu H I
 |none=>True
def QT (P:Program) (hint:Hint) (sh:bU) (B:Ec) (Γ:aN) (Pu:Nat->Prop) (H:GH) (I:IH):List (Nat×Option GH)->List (Nat×IH)->Prop
 | [],[]=>True
 |(c,q)::r,(c',I0)::r'=>(c=c'/\(∀ b,B.Pu b->I0.get b=B.I.get b)/\Rg P hint sh q I0 Γ Pu H I)/\QT P hint sh B Γ Pu H I r r'
 |_,_=>False
theorem QT.step {B:Ec} {l:List (Nat×Option GH)} {l':List (Nat×IH)} (h:QT P hint sh B Γ Pu H I l l') (e:Hi Γ Pu H I Γ1 Pu1 H1 I1):QT P hint sh B Γ1 Pu1 H1 I1 l l':=by
 induction l generalizing l' with
 |nil=>cases l' with
  |nil=>trivial
  |cons _ _=>exact h.elim
 |cons p r ih=>cases l' with
  |nil=>exact h.elim
  |cons q r'=>
   obtain ⟨c,o⟩:=p;obtain ⟨⟨h1,h2,h3⟩,h4⟩:=h;refine ⟨⟨h1,h2,?_⟩,ih h4⟩;cases o with
   |none=>trivial
   |some H0=>exact Ky.step h3 e
theorem tT {B:Ec} {m:Nat} {l:List (Nat×Option GH)} {l':List (Nat×IH)} (h:QT P hint sh B Γ Pu H I l l') (hc:pB m l=true):chained m l'=true:=by
 induction l generalizing l' with
 |nil=>cases l' with
  |nil=>rfl
  |cons _ _=>exact h.elim
 |cons p r ih=>cases l' with
  |nil=>exact h.elim
  |cons q r'=>
   obtain ⟨⟨h1,h2,h3⟩,h4⟩:=h;obtain ⟨c,H0⟩:=p;obtain ⟨c',I0⟩:=q;subst h1;simp only [pB,zae] at hc;simp only [chained,hc.1,ih h4 hc.2,zai]
theorem Eg {B:Ec} {fi:FI} {E:GE} {T:En} {o:Oper} {v:Value} {ids:List Nat} {p:Bool} {m:Nat} (hk:kindOf P o= .read) (hs:au P hint sh Γ Pu H I) (he:ER Γ Pu I E T) (ht:kG (dD fi E) o=some (ids,p))
  (hv:aG P self (eQ fi T) I o=some (.val v I)) (hsame:l8 v v=true) {l:List (Nat×Option GH)} {l':List (Nat×IH)} (h:QT P hint sh B Γ Pu H I l l') (hc:pe H ids p m l=true):gU P self fi T o v m l'=true:=by
 induction l generalizing l' with
 |nil=>cases l' with
  |nil=>rfl
  |cons _ _=>exact h.elim
 |cons a r ih=>cases l' with
  |nil=>exact h.elim
  |cons b r'=>
   obtain ⟨⟨h1,h2,h3⟩,h4⟩:=h;obtain ⟨c,q⟩:=a;obtain ⟨c',I0⟩:=b;subst h1;simp only [pe,zae,Bool.or_eq_true] at hc;simp only [gU,ih h4 hc.2,Bool.and_true,Bool.or_eq_true];rcases hc.1 with hc |hq
   .exact .inl hc
   .right
    cases q with
    |none=>cases hq
    |some H0=>
     simp only [zae,Bool.not_eq_true'] at hq;obtain ⟨hp,hst⟩:=hq;obtain ⟨Γ0,Pu0,s0,e0⟩:=h3;have:=Aj (self:=self) (I2:=I0) hk ht (cR hs he) hv (fun id hi l b x hl hpos=>by
      obtain ⟨s,q1,q2⟩:=yC hst id hi;obtain ⟨ob,hob⟩:=GH.hY q1;obtain ⟨l0,hl0,_⟩:=s0.obj id ob hob;have:=e0.g id l0 hl0;cases this.symm.trans hl;exact (e0.jv id l b x s q1 q2 hl0 hpos).symm) (fun hp'=>by grind)
     simp only [sameAt,BP,this,hsame]
def US (P:Program) (hint:Hint) (sh:bU) (self:Self) (fi:FI) (Γ:aN) (Pu:Nat->Prop) (H:GH) (I:IH) (g:SU) (q:Rd):Prop:=
 g.i=q.i/\∃ Γ0 Pu0 H0 I0 E0 p,au P hint sh Γ0 Pu0 H0 I0/\Hi Γ0 Pu0 H0 I0 Γ Pu H I/\ER Γ0 Pu0 I0 E0 q.T/\kindOf P q.o= .read/\kG (dD fi E0) q.o=some (g.ids,p)/\g.st=g.ids.map H0.aH/\
  aG P self (eQ fi q.T) I0 q.o=some (.val q.v I0)/\l8 q.v q.v=true
def SQ (P:Program) (hint:Hint) (sh:bU) (self:Self) (fi:FI) (Γ:aN) (Pu:Nat->Prop) (H:GH) (I:IH):List SU->List Rd->Prop
 | [],[]=>True
 |g::r,q::r'=>US P hint sh self fi Γ Pu H I g q/\SQ P hint sh self fi Γ Pu H I r r'
 |_,_=>False
theorem SQ.step {fi:FI} {l:List SU} {l':List Rd} (h:SQ P hint sh self fi Γ Pu H I l l') (e:Hi Γ Pu H I Γ1 Pu1 H1 I1):SQ P hint sh self fi Γ1 Pu1 H1 I1 l l':=by
 induction l generalizing l' with
 |nil=>cases l' with
  |nil=>trivial
  |cons _ _=>exact h.elim
 |cons p r ih=>cases l' with
  |nil=>exact h.elim
  |cons q r'=>
   obtain ⟨⟨h1,Γ0,Pu0,H0,I0,E0,pp,k1,k2,k3⟩,h3⟩:=h;exact ⟨⟨h1,Γ0,Pu0,H0,I0,E0,pp,k1,Hi.trans k1 k2 e,k3⟩,ih h3⟩
theorem vI {fi:FI} {m:Nat} {l:List SU} {l':List Rd} (h:SQ P hint sh self fi Γ Pu H I l l') (hc:lS H m l=true):jb P self fi I m l'=true:=by
 induction l generalizing l' with
 |nil=>cases l' with
  |nil=>rfl
  |cons _ _=>exact h.elim
 |cons g r ih=>cases l' with
  |nil=>exact h.elim
  |cons q r'=>
   obtain ⟨⟨h1,Γ0,Pu0,H0,I0,E0,p,s0,e0,he,hk,ht,hst,hv,hsame⟩,h3⟩:=h;simp only [lS,zae,Bool.or_eq_true] at hc;simp only [jb,ih h3 hc.2,Bool.and_true,Bool.or_eq_true];rcases hc.1 with hc |hq
   .grind
   .right
    rw [hst] at hq;have:=Aj (self:=self) (I2:=I) hk ht (cR s0 he) hv (fun id hi l b x hl hpos=>by
     obtain ⟨s,q1,q2⟩:=yC hq id hi;exact e0.jv id l b x s q1 q2 hl hpos) (fun _ b hb=>e0.i b hb)
    simp only [sameAt,BP,this,hsame]
theorem AU {B:Ec} {fi:FI} {T:En} {o:Oper} {v:Value} {m:Nat} (h0:∀ I2,(∀ b,B.Pu b->I2.get b=B.I.get b)->aG P self (eQ fi T) I2 o=some (.val v I2)) (hsame:l8 v v=true)
  {l:List (Nat×Option GH)} {l':List (Nat×IH)} (h:QT P hint sh B Γ Pu H I l l'):gU P self fi T o v m l'=true:=by
 induction l generalizing l' with
 |nil=>cases l' with
  |nil=>rfl
  |cons _ _=>exact h.elim
 |cons a r ih=>cases l' with
  |nil=>exact h.elim
  |cons b r'=>
   obtain ⟨⟨h1,h2,h3⟩,h4⟩:=h;obtain ⟨c,q⟩:=a;obtain ⟨c',I0⟩:=b;subst h1;have:=h0 I0 h2;simp only [gU,ih h4,Bool.and_true,sameAt,BP,this,hsame,Bool.or_true]
def oE (fi:FI) (B:Ec) (aP:List Nat) (E:GE) (T:En):Prop:=∀ t,AF aP t=false->GR B.Γ B.Pu B.I (fe fi E t) (ft fi T t)
theorem Li {fi:FI} {E:GE} {T:En} {d k:Nat} {t:TV} {v:Value} (h1:k=d->GR Γ Pu I t v) (h2:k≠d->GR Γ Pu I (fe fi E k) (ft fi T k)):GR Γ Pu I (fe fi (cO fi d t E) k) (ft fi (sH fi d v T) k):=by
 by_cases hk:k=d
 .subst hk
  have hv:=h1 rfl;unfold fe ft cO sH;cases hc:cls fi k with
  |out=>exact .undef _
  |loc=>
   show GR Γ Pu I (eT (mP E.loc k t) k) (lk (Iv.Og T.loc k v) k)
   rw [fy,uv,if_pos rfl,if_pos rfl];exact hv
  |tmp=>
   show GR Γ Pu I (eT (.c k t E.tmp) k) (lk (.c k v T.tmp) k)
   simp only [eT,lk,Nat.beq_refl,zac];exact hv
 .have h:=h2 hk
  have hb:Nat.beq d k=false:=gM (Ne.symm hk);have e1:fe fi (cO fi d t E) k=fe fi E k:=by
   unfold fe cO;cases cls fi d<;>cases cls fi k<;>simp only [fy,if_neg hk,eT,hb,zab]
  have e2:ft fi (sH fi d v T) k=ft fi T k:=by
   unfold ft sH;cases cls fi d<;>cases cls fi k<;>simp only [uv,if_neg hk,lk,hb,zab]
  grind
theorem OG {fi:FI} {E:GE} {T:En} {d k:Nat} {t:TV} (h1:GR Γ Pu I t (ft fi T d)) (h2:GR Γ Pu I (fe fi E k) (ft fi T k)):GR Γ Pu I (fe fi (cO fi d t E) k) (ft fi T k):=by
 by_cases hk:k=d
 .subst hk
  unfold fe cO;cases hc:cls fi k with
  |out=>exact .undef _
  |loc=>
   show GR Γ Pu I (eT (mP E.loc k t) k) _
   rw [fy,if_pos rfl];exact h1
  |tmp=>
   show GR Γ Pu I (eT (.c k t E.tmp) k) _
   simp only [eT,Nat.beq_refl,zac];exact h1
 .have hb:Nat.beq d k=false:=gM (Ne.symm hk)
  have e1:fe fi (cO fi d t E) k=fe fi E k:=by
   unfold fe cO;cases cls fi d<;>cases cls fi k<;>simp only [fy,if_neg hk,eT,hb,zab]
  grind
theorem oE.guard {fi:FI} {B:Ec} {aP:List Nat} {E E2:GE} {T:En} (h:oE fi B aP E T) (hg:T3 fi E T E2):oE fi B aP E2 T:=by
 rcases hg with rfl |⟨d,c,rfl,hd⟩
 .exact h
 .intro k hk
  exact OG (by rw [hd];exact .bool c) (h k hk)
theorem oE.put {fi:FI} {B:Ec} {aP:List Nat} {E:GE} {T:En} (h:oE fi B aP E T) {d:Option Tmp} {t:TV} {v:Value} (hv:GR B.Γ B.Pu B.I t v):oE fi B aP (c8 fi E d t) (dT fi T d v):=by
 cases d with
 |none=>exact h
 |some d=>exact fun k hk=>Li (fun _=>hv) fun _=>h k hk
theorem I3 {t:TV} {v:Value} {Γ':aN} {Pu':Nat->Prop} {I':IH} (hp:ie t=true) (h:GR Γ Pu I t v):GR Γ' Pu' I' t v:=by
 cases h<;>first |(cases hp;done) |skip
 .exact .int _ _
 .exact .byte _
 .exact .bool _
 .exact .str _
theorem oE.aP {fi:FI} {B:Ec} {aP:List Nat} {E:GE} {T:En} (h:oE fi B aP E T) {d:Option Tmp} {t:TV} {v:Value} (hv:GR Γ Pu I t v):oE fi B (ku (ie t) d aP) (c8 fi E d t) (dT fi T d v):=by
 unfold ku;cases hp:ie t with
 |true=>exact h.put (I3 hp hv)
 |false=>
  cases d with
  |none=>exact h
  |some d=>
   intro k hk;simp only [zab,AF] at hk;refine Li (fun e=>?_) fun _=>h k ?_
   .subst e;simp at hk
   grind
theorem pM {fi:FI} {B:Ec} {aP:List Nat} {E:GE} {T:En} (h:oE fi B aP E T) {x:Operand} (hx:Jv aP x=true):GR B.Γ B.Pu B.I (dD fi E x) (eQ fi T x):=by
 cases x with
 |tmp t=>exact h t (by simpa [Jv] using hx)
 |_=>cases hx
theorem DX {fi:FI} {B:Ec} {aP:List Nat} {E:GE} {T:En} {o:Oper} {K:TV->GH->Option Z} (h:oE fi B aP E T) (he:ER Γ Pu I E T) (hs:au P hint sh Γ Pu H I) (ho:tn (dD fi E) aP o=true) (hg:jH dS P sh sf (dD fi E) H o K=some r):
  ∃ t v,K t H=some r/\GR B.Γ B.Pu B.I t v/\aG P self (eQ fi T) I o=some (.val v I):=by
 unfold tn at ho;split at ho
 .rename_i x hop
  simp only [jH,hop] at hg;exact ⟨_,_,hg,pM h ho,by simp only [aG,hop]⟩
 .rename_i x hop
  simp only [jH,hop] at hg;exact ⟨_,_,hg,pM h ho,by simp only [aG,hop]⟩
 .rename_i t x ix hop
  simp only [zae] at ho;have h1:=pM h ho.1;have h2:=cR (fi:=fi) hs he ix;simp only [jH,hop] at hg;simp only [aG,hop];have hc:=ho.2;generalize eQ fi T x=x' at h1;generalize eQ fi T ix=ix' at h2;generalize dD fi E x=gx at h1 hc hg;generalize dD fi E ix=gi at h2 hc hg;split at hc
  .rename_i e xs nl cl k i
   cases h2;cases h1 with |aB hen _ _=>
   simp only [Ua] at hg;rw [sX] at hg;unfold eP at hg;split at hg
   .grind
   .rename_i e0 s0 xs0 _ _ _ i0 hu q1 q2
    cases q1;cases q2;split at hg
    .rename_i inf hinf
     replace hg:=ad hg;obtain ⟨hb,hg⟩:=hg;replace hg:=aE hg;obtain ⟨hc,hg⟩:=hg;replace hg:=ef hg;obtain ⟨y,hy,hg⟩:=hg;obtain ⟨b,off,cap,rfl,hr⟩:=hen.at (Γ:=B.Γ) hy;have hlt:i.toNat<xs.length:=(List.getElem?_eq_some_iff.1 hy).1;simp only [bm,hu,hinf,pF (bM hc) hlt,if_true];rw [←beq_true hb]
     grind
    .cases hg
   .grind
   .grind
   .cases hg
  .cases hc
 .rename_i s x f hop
  simp only [zae] at ho;have h1:=pM h ho.1;simp only [jH,hop] at hg;simp only [aG,hop];have hc:=ho.2;generalize eQ fi T x=x' at h1;generalize dD fi E x=gx at h1 hc hg;split at hc
  .rename_i cs
   cases h1 with |nL a b c d=>
   unfold iD at hg;split at hg
   .rename_i fs hu
    split at hg
    .rename_i fd hfd
     split at hg
     .rename_i i hi
      cases hz:Nat.beq i.size 0 with
      |true=>grind
      |false=>
       rw [hz] at hg;simp only [zab] at hg;have hne:i.size≠0:=fun e=>by rw [e] at hz;cases hz
       replace hg:=ad hg;obtain ⟨hb,hg⟩:=hg;have hl:=aF hb;simp only [cD,hu,hfd,hi,if_neg hne];refine ⟨_,_,hg,.nL a b (by simp;omega) ?_,rfl⟩;have:=d.drop fd.offset;rw [List.drop_take,zak] at this
       grind
     .cases hg
    .cases hg
   .cases hg
  .cases hc
 .cases ho
theorem Fg {fi:FI} {B:Ec} {aP:List Nat} {E:GE} {T:En} {o:Oper} {K:TV->GH->Option Z} (h:oE fi B aP E T) (ho:tw (dD fi E) aP o=true) (hg:jH dS P sh sf (dD fi E) H o K=some r):
  (∃ t v,K t H=some r/\GR B.Γ B.Pu B.I t v/\∀ I2,(∀ b,B.Pu b->I2.get b=B.I.get b)->aG P self (eQ fi T) I2 o=some (.val v I2))/\kG (dD fi E) o=some ([],true):=by
 unfold tw at ho;split at ho
 .rename_i t a hop
  simp only [zae] at ho;have h1:=pM h ho.1;simp only [jH,hop] at hg;simp only [aG,hop,kG];have hc:=ho.2;generalize eQ fi T a=a' at h1;generalize dD fi E a=ga at h1 hc hg ⊢;split at hc
  .rename_i cs
   refine ⟨?_,rfl⟩;cases h1 with |nL hpu hget hle hr=>
   rw [Fe] at hg;unfold ny at hg;simp only at hg;split at hg
   .rename_i x hx
    obtain ⟨v,hv,hrv⟩:=iA (P:=P) (t:=t) hget hle hr hx;refine ⟨_,_,hg,hrv,fun I2 hI=>?_⟩;refine xh (I:=B.I) (J:=B.I) ?_ fun b hb=>?_
    .simp only [dc,hv]
    .cases hb;grind
   .cases hg
  .cases hc
 .cases ho
theorem db {n0 b:Nat}:∀ {l:List (Nat×bN)} {H:IH},b<n0->(aq n0 l H).get b=H.get b:=by
 intro l
 induction l with
 |nil=>intro H _;rfl
 |cons p r ih=>
  intro H hb;obtain ⟨i,o⟩:=p
  show ((aq n0 r H).put (n0+i) o).get b=_
  rw [IH.ag,if_neg (by omega)];exact ih hb
theorem bY {n0:Nat}:∀ {l:List (Nat×bN)} {H:IH},(aq n0 l H).n=H.n:=by
 intro l
 induction l with
 |nil=>intro H;rfl
 |cons p r ih=>intro H;exact ih
structure OY (P:Program) (hint:Hint) (sh:bU) (me:Self) (fi:FI) (B:Ec) (R i:Nat) (Γ:aN) (Pu:Nat->Prop) (s:Ov) (s':DS):Prop where
 dH:au P hint sh Γ Pu s.H (aq B.I.n s'.bq s'.H)
 env:ER Γ Pu (aq B.I.n s'.bq s'.H) s.E s'.T
 bq:s'.bq.map (·.1)=s.pn
 sn:QT P hint sh B Γ Pu s.H (aq B.I.n s'.bq s'.H) s.cw s'.cw
 rd:SQ P hint sh me fi Γ Pu s.H (aq B.I.n s'.bq s'.H) s.reads s'.reads
 old:oE fi B s.aP s.E s'.T
 Dm:Ex (bk B.Γ B.H B.I) B.Γ B.Pu B.H B.I Γ Pu s.H (aq B.I.n s'.bq s'.H)
 free:∀ j,i<=j->j<R->(aq B.I.n s'.bq s'.H).get (B.I.n+j)=none
 room:B.I.n+R<=s'.H.n
 po:∀ j id,(j,id)∈s.po->∃ l,Γ id=some l/\l.pos=some (B.I.n+j,0)
theorem Rk {Γ Γ1:aN} {n0:Nat} {po:List (Nat×Nat)} (h:∀ j id,(j,id)∈po->∃ l,Γ id=some l/\l.pos=some (n0+j,0)) (hg:∀ id l,Γ id=some l->Γ1 id=some l):∀ j id,(j,id)∈po->∃ l,Γ1 id=some l/\l.pos=some (n0+j,0):=fun j id hm=>by
 grind
theorem Ex.hi (hs:au P hint sh Γ Pu H I) (h:Ex (bk Γ H I) Γ Pu H I Γ1 Pu1 H1 I1):Hi Γ Pu H I Γ1 Pu1 H1 I1:=Hi.of hs h fun b hb ho=>hs.sep b ho hb
theorem xP (hs:au P hint sh Γ Pu H I) (h:Ex (bk Γ H I) Γ Pu H I Γ1 Pu1 H1 I1) {b:Nat} (hb:b<I.n) (hf:I.get b=none):I1.get b=none:=by
 rw [h.cE b hb fun ho=>by obtain ⟨o,ho⟩:=hs.uX ho;grind];exact hf
theorem fV {n0 b:Nat}:∀ {l:List (Nat×bN)} {H:IH},(∀ x∈l,n0+x.1≠b)->(aq n0 l H).get b=H.get b:=by
 intro l
 induction l with
 |nil=>intro H _;rfl
 |cons p r ih=>
  intro H h;obtain ⟨i,o⟩:=p
  show ((aq n0 r H).put (n0+i) o).get b=_
  rw [IH.ag,if_neg (fun e=>h _ List.mem_cons_self e.symm)]
  grind
theorem mT {n0 b:Nat} {H H':IH} (h:H.get b=H'.get b):∀ {l:List (Nat×bN)},(aq n0 l H).get b=(aq n0 l H').get b:=by
 intro l
 induction l with
 |nil=>exact h
 |cons p r ih=>
  obtain ⟨i,o⟩:=p
  show ((aq n0 r H).put (n0+i) o).get b=((aq n0 r H').put (n0+i) o).get b
  rw [IH.ag,IH.ag,ih]
theorem kS {n0 b m:Nat} {H:IH}:∀ {l:List (Nat×bN)},(aq n0 (l.filter fun x=> !m.testBit x.1) (aq n0 (l.filter fun x=>m.testBit x.1) H)).get b=(aq n0 l H).get b:=by
 intro l
 induction l with
 |nil=>rfl
 |cons p r ih=>
  obtain ⟨i,o⟩:=p;have hr:(aq n0 ((i,o)::r) H).get b=if b=n0+i then some o else (aq n0 r H).get b:=by
   show ((aq n0 r H).put (n0+i) o).get b=_
   rw [IH.ag]
  rw [hr];cases hq:m.testBit i with
  |true=>
   simp only [List.filter_cons,hq,zag,if_true,Bool.false_eq_true,if_false];by_cases hb:b=n0+i
   .rw [if_pos hb,fV]
    .show ((aq n0 _ H).put (n0+i) o).get b=_
     rw [IH.ag,if_pos hb]
    grind
   .rw [if_neg hb,←ih]
    refine mT ?_
    show ((aq n0 _ H).put (n0+i) o).get b=_
    rw [IH.ag,if_neg hb]
  |false=>
   simp only [List.filter_cons,hq,Bool.not_false,if_true,Bool.false_eq_true,if_false]
   show ((aq n0 _ _).put (n0+i) o).get b=_
   rw [IH.ag]
   grind
theorem EE {t:TypeId} {b off:Nat} {v:Value} (h:bK P I t (.pointer (some ⟨b,off,none⟩)) v=some (.skip I1)):
  (I1=I/\∀ I2,bK P I2 t (.pointer (some ⟨b,off,none⟩)) v=some (.skip I2))\/∃ ob,I1=I.put b ob/\∀ I2:IH,I2.get b=I.get b->bK P I2 t (.pointer (some ⟨b,off,none⟩)) v=some (.skip (I2.put b ob)):=by
 unfold bK at h;simp only at h;split at h
 .rename_i J hJ
  cases h;unfold nr at hJ;split at hJ
  .rename_i i hi
   split at hJ
   .rename_i hsz
    unfold IH.eJ at hJ;split at hJ
    .rename_i he
     cases hJ;exact .inl ⟨rfl,fun I2=>by simp only [bK,nr,hi,hsz,if_true,IH.eJ,he]⟩
    .rename_i he
     split at hJ
     .rename_i cs e fz ex sh hg
      split at hJ
      .rename_i hc
       cases hJ;refine .inr ⟨_,rfl,fun I2 h2=>?_⟩;simp only [bK,nr,hi,hsz,if_true,IH.eJ,he,h2,hg]
       grind
      .cases hJ
     .cases hJ
   .cases hJ
  .cases hJ
 .cases h
theorem au.Sy {I2:IH} (hs:au P hint sh Γ Pu H I) (hg:∀ b,I2.get b=I.get b) (hn:I2.n=I.n):au P hint sh Γ Pu H I2/\Ex (bk Γ H I) Γ Pu H I Γ Pu H I2:=by
 have hkeep:cp Γ Pu I Γ Pu I2:=⟨fun _ _ h=>h,fun _ h=>h,fun b _=>hg b⟩;exact ⟨⟨fun id o ho=>by
   obtain ⟨l,hl,_⟩:=hs.obj id o ho;exact ⟨l,hl,hs.dF hkeep ho hl fun _ b _=>hg b⟩,hs.HH (fun _ _ _ b _ _ _ _ _=>hg b),(fun b h=>hs.sep b (pf (fun _ _ _ b _ _ _ _ _=>hg b) h)),hs.aT,fun b hb=>(hg b).trans (hs.fresh b (hn▸hb)),fun b hb=>by
   obtain ⟨cs,et,fz,ex,sd,h⟩:=hs.pu b hb
   grind,hn▸hs.ro,hs.gn,hs.cq,hs.st,hs.nK hkeep.p hkeep.i⟩,
  ⟨fun _ _ x=>x,zal _,Nat.le_of_eq hn.symm,fun _ x=>x,fun b _ _=>hg b,fun _ _ x=>pf (fun _ _ _ b _ _ _ _ _=>hg b) x,fun _ _ x=> .inl x,zal _,fun _ _=> .inr (.inl rfl),fun _ _ b _ _ _ _ _ _=>hg b⟩⟩
theorem G0:∀ {l:List Nat} {H:GH},(rH l H).n=H.n/\(rH l H).ck=H.ck:=by
 intro l
 induction l with
 |nil=>intro H;exact ⟨rfl,rfl⟩
 |cons a r ih=>intro H;exact ih (H:=H.del a)
theorem rK {l:List Nat}:∀ {H:GH} {k:Nat},(rH l H).aH k=if k∈l then none else H.aH k:=by
 induction l with
 |nil=>intro H k;simp [rH]
 |cons a r ih=>
  intro H k
  show (rH r (H.del a)).aH k=_
  rw [ih,GH.eu]
  grind
theorem xn {po:List (Nat×Nat)} {js:List Nat} (h:Fm H po js=true):∀ j∈js,∃ id kt gk ge k e xs em,(j,id)∈po/\id∈jj po js/\H.get id=some (.map kt gk ge k e xs em):=by
 have key:∀ js:List Nat,∀ j∈js,∀ p,po.find? (fun p=>Nat.beq p.1 j)=some p->p.2∈jj po js:=by
  intro js
  induction js with
  |nil=>grind
  |cons a r ih=>
   intro j hj p hp;unfold jj
   grind
 intro j hj;have h1:=List.all_eq_true.1 h j hj;split at h1
 .rename_i p hp
  have h2:=List.mem_of_find?_eq_some hp;have h3:p.1=j:=beq_true (by have:=List.find?_some hp;simpa using this);unfold Lo at h1
  grind
 .cases h1
theorem zx (ok:ej P hint sh sf self) {fi:FI} {B:Ec} (hsB:au P hint sh B.Γ B.Pu B.H B.I) {ops:Array Oper} {R i m:Nat} {o:Oper} (hR:kindOf P o= .fresh->i<R) {s:Ov} {s':DS} {K:Ov->Option Z} {KP:Value->GH->Option Z} (h:rA dS P sh sf fi ops i o m s K KP=some r) (hi:OY P hint sh self fi B R i Γ Pu s s'):
  (∃ s1 s1' Γ1 Pu1,K s1=some r/\fB P self fi ops B.I.n i o m s'= .done s1'/\OY P hint sh self fi B R (i+1) Γ1 Pu1 s1 s1')\/
  (∃ w H1 Γ1 Pu1 I1,KP w H1=some r/\fB P self fi ops B.I.n i o m s'= .panic w I1/\au P hint sh Γ1 Pu1 H1 I1/\Ex (bk B.Γ B.H B.I) B.Γ B.Pu B.H B.I Γ1 Pu1 H1 I1):=by
 unfold rA at h;unfold fB;have kB:=hi.Dm.cy hsB;have hfree:∀ j,i+1<=j->j<R->(aq B.I.n s'.bq s'.H).get (B.I.n+j)=none:=fun j h1 h2=>hi.free j (by omega) h2
 rcases xA h hi.env with ⟨hw,E2,h,he2,hG⟩ |⟨hw,E2,h,he2,hG⟩
 .have hold:=hi.old.guard hG
  simp only [hw];split at h
  .rename_i hk
   simp only [hk];cases hos:tn (dD fi E2) s.aP o with
   |true=>
    rw [hos] at h;simp only [zac] at h;obtain ⟨t,v,k1,k2,e⟩:=DX (self:=self) hold he2 hi.dH hos h;obtain ⟨v',hv',hall⟩:=oV hk _ _ e;cases hv';simp only at hall;simp only [hall s'.H];refine .inl ⟨_,_,Γ,Pu,k1,rfl,⟨hi.dH,he2.put fi o.dst (k2.mono kB),hi.bq,hi.sn,hi.rd,hold.put k2,hi.Dm,hfree,hi.room,hi.po⟩⟩
   |false=>
    rw [hos] at h;simp only [zab] at h;obtain ⟨t,H1,Γ1,Pu1,v,I1,k1,k2,k3,k4,k5⟩:=GL hi.dH ok (cR hi.dH he2) (by rw [hk];simp) h;rcases jK k2 with e |⟨e,rfl⟩
    .obtain ⟨v',hv',hall⟩:=oV hk _ _ e
     cases hv';simp only at hall;simp only [hall s'.H];have hh:=k5.hi hi.dH;refine .inl ⟨_,_,Γ1,Pu1,k1,rfl,⟨k4,(he2.mono (k5.cy hi.dH)).put fi o.dst k3,hi.bq,hi.sn.step hh,hi.rd.step hh,hold.aP k3,Ex.trans hsB hi.dH hi.Dm k5,hfree,hi.room,Rk hi.po k5.g⟩⟩
    .obtain ⟨v',hv',_⟩:=oV hk _ _ e
     cases hv'
  .rename_i hk
   simp only [hk];cases hos:tw (dD fi E2) s.aP o with
   |true=>
    rw [hos] at h;simp only [zac] at h;obtain ⟨⟨t,v,k1,k2,e⟩,ht⟩:=Fg (self:=self) hold hos h;replace k1:=ad k1;obtain ⟨hsm,k1⟩:=k1;have hsv:=Bc hsm k2;have e1:=e s'.H fun b hb=>by rw [←db (l:=s'.bq) (hsB.iT hb)];exact kB.i b hb
    have e2:=e (aq B.I.n s'.bq s'.H) fun b hb=>kB.i b hb
    simp only [e1,AU (self:=self) e hsv hi.sn,if_true]
    refine .inl ⟨_,_,Γ,Pu,k1,rfl,⟨hi.dH,he2.put fi o.dst (k2.mono kB),hi.bq,hi.sn,
     ⟨⟨rfl,Γ,Pu,s.H,_,E2,true,hi.dH,.refl,he2,hk,ht,rfl,e2,hsv⟩,hi.rd⟩,hold.put k2,hi.Dm,hfree,hi.room,hi.po⟩⟩
   |false=>
    rw [hos] at h;simp only [zab] at h;split at h
    .rename_i ids p ht
     replace h:=ad h;obtain ⟨hc,h⟩:=h;simp only [zae] at hc;obtain ⟨hpn,hc⟩:=hc;obtain ⟨t,H1,Γ1,Pu1,v,I1,k1,k2,k3,k4,k5⟩:=GL hi.dH ok (cR hi.dH he2) (by rw [hk];simp) h;replace k1:=ad k1;obtain ⟨hsm,k1⟩:=k1;rcases jK k2 with e |⟨e,rfl⟩
     .have hI:=xX hk _ _ _ e
      subst hI;have hsv:=Bc hsm k3;have e1:aG P self (eQ fi s'.T) s'.H o=some (.val v s'.H):=by
       rcases Bool.or_eq_true_iff.1 hpn with hq |hq
       .have hp0:s'.bq= []:=by
         have:=hi.bq;rw [List.isEmpty_iff.1 hq] at this;exact List.map_eq_nil_iff.1 this
        rw [hp0] at e;exact e
       .simp only [zae,Bool.not_eq_true'] at hq
        obtain ⟨hq1,hq2⟩:=hq;have:=List.isEmpty_iff.1 hq1;subst this;exact Aj (self:=self) hk ht (cR hi.dH he2) e (fun id hid=>by cases hid) (fun hp'=>by grind)
      simp only [e1,Eg (self:=self) hk hi.dH he2 ht e hsv hi.sn hc,if_true];have hh:=k5.hi hi.dH
      refine .inl ⟨_,_,Γ1,Pu1,k1,rfl,⟨k4,(he2.mono (k5.cy hi.dH)).put fi o.dst k3,hi.bq,hi.sn.step hh,
       ⟨⟨rfl,Γ,Pu,s.H,_,E2,p,hi.dH,hh,he2,hk,ht,rfl,e,hsv⟩,hi.rd.step hh⟩,hold.aP k3,Ex.trans hsB hi.dH hi.Dm k5,hfree,hi.room,Rk hi.po k5.g⟩⟩
     .exact absurd e (Br hk)
    .cases h
  .rename_i hk
   have hiR:=hR hk;split at h
   .rename_i t len ps hop
    have hk0:=hi.free i (zal _) hiR;have hroN:ep<=B.I.n+i:=Nat.le_trans hsB.ro (Nat.le_add_right _ _);obtain ⟨q,H1,Γ1,Pu1,v,ob,k1,k2,k3,k4,k5⟩:=uC hi.dH hk0 (by rw [bY];have:=hi.room;omega) hroN h (D7.map (cR hi.dH he2) _);have e1:aG P self (eQ fi s'.T) { s'.H with n:=B.I.n+i } o=some (.val v (({ s'.H with n:=B.I.n+i }:IH).new ob)):=by
     simp only [aG,hop];exact k2 _ rfl
    have e2:(({ s'.H with n:=B.I.n+i }:IH).new ob).get (B.I.n+i)=some ob:=by rw [IH.ay];exact if_pos rfl
    simp only [hk,e1,e2];have hh:=Hi.of hi.dH k5 fun b hb ho=>by
     rcases ho with ho |rfl
     .exact hi.dH.sep b ho hb
     .obtain ⟨cs,et,fz,ex,sd,hg⟩:=hi.dH.pu _ hb
      grind
    refine .inl ⟨_,_,Γ1,Pu1,k1,rfl,⟨k4,(he2.mono hh.cy).put fi o.dst k3,?_,hi.sn.step hh,hi.rd.step hh,hold.aP k3,Ex.qI hsB hi.Dm k5 (fun b hb ho=>?_),fun j h1 h2=>?_,hi.room,Rk hi.po k5.g⟩⟩
    .simp only [List.map_cons,hi.bq]
    .rcases ho with ho |rfl
     .exact hi.Dm.own b hb ho
     .omega
    .show ((aq B.I.n s'.bq s'.H).put (B.I.n+i) ob).get (B.I.n+j)=none
     rw [IH.ag,if_neg (by omega)]
     grind
   .rename_i et hop
    simp only [jH,hop] at h;have hk0:=hi.free i (zal _) hiR;have hroN:ep<=B.I.n+i:=Nat.le_trans hsB.ro (Nat.le_add_right _ _);obtain ⟨q,H1,Γ1,Pu1,v,ob,k1,k2,k3,k4,k5⟩:=HN hi.dH hk0 (by rw [bY];have:=hi.room;omega) hroN h;have e1:aG P self (eQ fi s'.T) { s'.H with n:=B.I.n+i } o=some (.val v (({ s'.H with n:=B.I.n+i }:IH).new ob)):=by
     simp only [aG,hop];exact k2 _ rfl
    have e2:(({ s'.H with n:=B.I.n+i }:IH).new ob).get (B.I.n+i)=some ob:=by rw [IH.ay];exact if_pos rfl
    simp only [hk,e1,e2];have hh:=Hi.of hi.dH k5 fun b hb ho=>by
     rcases ho with ho |rfl
     .exact hi.dH.sep b ho hb
     .obtain ⟨cs,et,fz,ex,sd,hg⟩:=hi.dH.pu _ hb
      grind
    refine .inl ⟨_,_,Γ1,Pu1,k1,rfl,⟨k4,(he2.mono hh.cy).put fi o.dst k3,?_,hi.sn.step hh,hi.rd.step hh,hold.aP k3,Ex.qI hsB hi.Dm k5 (fun b hb ho=>?_),fun j h1 h2=>?_,hi.room,Rk hi.po k5.g⟩⟩
    .simp only [List.map_cons,hi.bq]
    .rcases ho with ho |rfl
     .exact hi.Dm.own b hb ho
     .omega
    .show ((aq B.I.n s'.bq s'.H).put (B.I.n+i) ob).get (B.I.n+j)=none
     rw [IH.ag,if_neg (by omega)]
     grind
   .rename_i t n hop
    simp only [jH,hop] at h;have hk0:=hi.free i (zal _) hiR;have hroN:ep<=B.I.n+i:=Nat.le_trans hsB.ro (Nat.le_add_right _ _);obtain ⟨q,H1,Γ1,Pu1,v,ob,k1,k2,k3,k4,k5,k6⟩:=zl hi.dH hk0 (by rw [bY];have:=hi.room;omega) hroN h (dW.map (cR hi.dH he2) _);have e1:aG P self (eQ fi s'.T) { s'.H with n:=B.I.n+i } o=some (.val v (({ s'.H with n:=B.I.n+i }:IH).new ob)):=by
     simp only [aG,hop];exact k2 _ rfl
    have e2:(({ s'.H with n:=B.I.n+i }:IH).new ob).get (B.I.n+i)=some ob:=by rw [IH.ay];exact if_pos rfl
    simp only [hk,e1,e2];have hh:=Hi.of hi.dH k5 fun b hb ho=>by
     rcases ho with ho |rfl
     .exact hi.dH.sep b ho hb
     .obtain ⟨cs,et,fz,ex,sd,hg⟩:=hi.dH.pu _ hb
      grind
    refine .inl ⟨_,_,Γ1,Pu1,k1,rfl,⟨k4,(he2.mono hh.cy).put fi o.dst k3,?_,hi.sn.step hh,hi.rd.step hh,hold.aP k3,Ex.qI hsB hi.Dm k5 (fun b hb ho=>?_),fun j h1 h2=>?_,hi.room,fun j id hm=>?_⟩⟩
    .simp only [List.map_cons,hi.bq]
    .rcases ho with ho |rfl
     .exact hi.Dm.own b hb ho
     .omega
    .show ((aq B.I.n s'.bq s'.H).put (B.I.n+i) ob).get (B.I.n+j)=none
     rw [IH.ag,if_neg (by omega)]
     grind
    .rcases List.mem_cons.1 hm with hm |hm
     .grind
     .exact Rk hi.po k5.g j id hm
   .cases h
  .rename_i hk
   replace h:=ad h;obtain ⟨hc,h⟩:=h;cases hall:s.pn.all (fun j=>m.testBit j) with
   |true=>
    rw [hall] at h;simp only [zac] at h;have hmem:∀ x∈s'.bq,m.testBit x.1=true:=fun x hx=>List.all_eq_true.1 hall x.1 (by rw [←hi.bq];grind)
    have f1:(s'.bq.filter fun x=>m.testBit x.1)=s'.bq:=List.filter_eq_self.2 hmem;have f2:(s'.bq.filter fun x=> !m.testBit x.1)= []:=List.filter_eq_nil_iff.2 fun x hx=>by grind
    simp only [hk,tT hi.sn hc,if_true,f1,f2];rcases zI hi.dH ok (cR hi.dH he2) h with ⟨t,H1,Γ1,Pu1,v,I1,k1,k2,k3,k4,k5⟩ |⟨_,w,H1,Γ1,Pu1,I1,k1,k2,k4,k5⟩
    case inr=>exact .inr ⟨w,H1,Γ1,Pu1,I1,k1,by grind,k4,Ex.trans hsB hi.dH hi.Dm k5⟩
    simp only [yM k3] at k1;replace k1:=ad k1;obtain ⟨hr,k1⟩:=k1;have hh:=k5.hi hi.dH;have hrd:=hi.rd.step hh;have hr':=vI hrd hr;have hB1:∀ b,B.Pu b->s'.H.get b=B.I.get b:=fun b hb=>by rw [←db (l:=s'.bq) (hsB.iT hb)];exact kB.i b hb
    have hpo:Rg P hint sh (bif s.pn.isEmpty then some s.H else none) s'.H Γ1 Pu1 H1 I1:=by
     cases hq:s.pn.isEmpty with
     |false=>trivial
     |true=>
      have hp0:s'.bq= []:=by
       have:=hi.bq;rw [List.isEmpty_iff.1 hq] at this;exact List.map_eq_nil_iff.1 this
      have hsim:=hi.dH;rw [hp0] at hsim hh;exact ⟨Γ,Pu,hsim,hh⟩
    have hroom:B.I.n+R<=I1.n:=Nat.le_trans (by rw [bY];exact hi.room) k5.n;have hf1:∀ j,i+1<=j->j<R->I1.get (B.I.n+j)=none:=fun j h1 h2=>xP hi.dH k5 (by rw [bY];have:=hi.room;omega) (hfree j h1 h2)
    rcases jK k2 with e |⟨e,rfl⟩
    .simp only [e,hr',if_true]
     refine .inl ⟨_,_,Γ1,Pu1,k1,rfl,⟨k4,(he2.mono (k5.cy hi.dH)).put fi o.dst k3,rfl,⟨⟨rfl,hB1,hpo⟩,hi.sn.step hh⟩,hrd,hold.aP k3,Ex.trans hsB hi.dH hi.Dm k5,hf1,hroom,Rk hi.po k5.g⟩⟩
    .simp only [e,hr',if_true]
     refine .inl ⟨_,_,Γ1,Pu1,k1,rfl,⟨k4,(he2.mono (k5.cy hi.dH)).put fi o.dst k3,rfl,⟨⟨rfl,hB1,hpo⟩,hi.sn.step hh⟩,hrd,hold.aP k3,Ex.trans hsB hi.dH hi.Dm k5,hf1,hroom,Rk hi.po k5.g⟩⟩
   |false=>
    rw [hall] at h;simp only [zab] at h;replace h:=ad h;obtain ⟨hlate,h⟩:=h;unfold KJ at hlate;split at hlate
    .rename_i t a w hop
     split at hlate
     .rename_i id off ha
      split at hlate
      .rename_i cet ccs hg
       have hgo:=(zI hi.dH ok (cR hi.dH he2) h).resolve_right (by
        rintro ⟨_,w',_,_,_,J,_,e,_⟩;simp only [aG,hop,bK] at e;split at e
        .split at e<;>cases e
        .cases e)
       obtain ⟨t',H1,Γ1,Pu1,v',I1,k1,k2,k3,k4,k5⟩:=hgo;replace k1:=ad k1;obtain ⟨hr,k1⟩:=k1;replace hr:=ae hr;obtain ⟨hl1,hr⟩:=hr;have hra:=cR (fi:=fi) hi.dH he2 a;rw [ha] at hra;have hra':∃ b l,Γ id=some l/\l.pos=some (b,0)/\eQ fi s'.T a= .pointer (some ⟨b,off,none⟩):=by
        generalize eQ fi s'.T a=q at hra;cases hra with |ptr x y=>exact ⟨_,_,x,y,rfl⟩
       obtain ⟨b,l,hl,hp,hae⟩:=hra';simp only [aG,hop,hae] at k2;have hnb:∀ x∈s'.bq.filter (fun x=> !m.testBit x.1),B.I.n+x.1≠b:=fun x hx e=>by
        have hx':x.1∈s.pn.filter (fun j=> !m.testBit j):=List.mem_filter.2 ⟨by rw [←hi.bq];exact List.mem_map.2 ⟨x,(List.mem_filter.1 hx).1,rfl⟩,(List.mem_filter.1 hx).2⟩;obtain ⟨id2,kt,gk,ge,k,e2,xs,em,q1,_,q3⟩:=xn hlate _ hx';obtain ⟨l2,q4,q5⟩:=hi.po _ _ q1;have:=hi.dH.Td id id2 _ _ l l2 b 0 0 hg q3 rfl rfl hl q4 hp (by rw [q5,e]);rw [this,q3] at hg;cases hg
       have hev:an (bK P (aq B.I.n s'.bq s'.H) t (.pointer (some ⟨b,off,none⟩)) (eQ fi s'.T w))=some (v',I1)->bK P (aq B.I.n s'.bq s'.H) t (.pointer (some ⟨b,off,none⟩)) (eQ fi s'.T w)=some (.skip I1)/\v'=Go.undef:=fun q=>by
        rcases jK q with e |e
        .unfold bK at e
         simp only at e;split at e<;>cases e
        .exact e
       obtain ⟨e,rfl⟩:=hev k2;have hIa:(aq B.I.n (s'.bq.filter fun x=>m.testBit x.1) s'.H).get b=(aq B.I.n s'.bq s'.H).get b:=(fV hnb).symm.trans kS;obtain ⟨Ia1,e1,hG,hnA⟩:∃ Ia1,bK P (aq B.I.n (s'.bq.filter fun x=>m.testBit x.1) s'.H) t (.pointer (some ⟨b,off,none⟩)) (eQ fi s'.T w)=some (.skip Ia1)/\(∀ x,(aq B.I.n (s'.bq.filter fun x=> !m.testBit x.1) Ia1).get x=I1.get x)/\Ia1.n=I1.n:=by
        rcases EE e with ⟨rfl,hall⟩ |⟨ob,rfl,hall⟩
        .exact ⟨_,hall _,fun x=>kS,by rw [bY,bY]⟩
        .refine ⟨_,hall _ hIa,fun x=>?_,by simp only [IH.QQ,bY]⟩
         by_cases hx:x=b
         .subst hx
          rw [fV hnb,IH.ag,IH.ag,if_pos rfl,if_pos rfl]
         .rw [IH.ag (aq B.I.n s'.bq s'.H),if_neg hx]
          exact (mT (by rw [IH.ag,if_neg hx])).trans kS
       have e1':aG P self (eQ fi s'.T) (aq B.I.n (s'.bq.filter fun x=>m.testBit x.1) s'.H) o=some (.skip Ia1):=by
        simp only [aG,hop,hae];exact e1
       have hn2:(aq B.I.n (s'.bq.filter fun x=> !m.testBit x.1) Ia1).n=I1.n:=by rw [bY];exact hnA
       obtain ⟨s2,x2⟩:=k4.Sy hG hn2;have hh:=k5.hi hi.dH;have hh2:=x2.hi k4;have hrd:=hi.rd.step hh;have hpo1:=Rk hi.po k5.g;have late:∀ x∈s'.bq.filter (fun x=> !m.testBit x.1),∃ id2 l2,id2∈jj s.po (s.pn.filter fun j=> !m.testBit j)/\(∃ o2,H1.get id2=some o2/\o2.cY=true)/\Γ1 id2=some l2/\l2.pos=some (B.I.n+x.1,0):=fun x hx=>by
        have hx':x.1∈s.pn.filter (fun j=> !m.testBit j):=List.mem_filter.2 ⟨by rw [←hi.bq];exact List.mem_map.2 ⟨x,(List.mem_filter.1 hx).1,rfl⟩,(List.mem_filter.1 hx).2⟩;obtain ⟨id2,kt,gk,ge,k,e2,xs,em,q1,q2,q3⟩:=xn hl1 _ hx';obtain ⟨l2,q4,q5⟩:=hpo1 _ _ q1;exact ⟨id2,l2,q2,⟨_,q3,rfl⟩,q4,q5⟩
       have hiD:Hi Γ1 Pu1 H1 I1 Γ1 Pu1 (rH (jj s.po (s.pn.filter fun j=> !m.testBit j)) H1) Ia1:=by
        have same:∀ b,(∀ x∈s'.bq.filter (fun x=> !m.testBit x.1),B.I.n+x.1≠b)->Ia1.get b=I1.get b:=fun b hb=>by rw [←hG b,fV hb]
        refine ⟨fun _ _ h=>h,fun _ h=>h,fun b hb=>same b fun x hx e=>?_,Nat.le_of_eq G0.1.symm,Nat.le_of_eq G0.2.symm,fun id _=>?_,fun id l b x s0 h1 h2 h3 h4=>same b fun y hy e=>?_⟩
        .obtain ⟨id2,l2,q1,⟨o2,q2,q3⟩,q4,q5⟩:=late x hx
         exact k4.sep b (.pos q2 q3 q4 (by rw [q5,e])) hb
        .rw [rK]
         split
         .exact .inl rfl
         .exact .inr (.inl rfl)
        .obtain ⟨id2,l2,q1,⟨o2,q2,q3⟩,q4,q5⟩:=late y hy
         obtain ⟨oo,h5⟩:=GH.hY h1;obtain ⟨l',h6,h7⟩:=k4.obj id oo h5;cases h3.symm.trans h6;cases hm:oo.cY with
         |true=>
          have:=k4.Td id id2 _ _ l l2 b x 0 h5 q2 hm q3 h3 q4 h4 (by rw [q5,e]);rw [rK,if_pos (this▸q1)] at h2;cases h2
         |false=>exact k4.sep b (.pos q2 q3 q4 (by rw [q5,e])) (h7.rest hm (.inl ⟨x,h4⟩))
       have hr':=vI (hrd.step hiD) hr;have hB1:∀ b,B.Pu b->s'.H.get b=B.I.get b:=fun b hb=>by rw [←db (l:=s'.bq) (hsB.iT hb)];exact kB.i b hb
       have hf1:∀ j,i+1<=j->j<R->I1.get (B.I.n+j)=none:=fun j h1 h2=>xP hi.dH k5 (by rw [bY];have:=hi.room;omega) (hfree j h1 h2)
       have hroom:B.I.n+R<=Ia1.n:=by rw [hnA];exact Nat.le_trans (by rw [bY];exact hi.room) k5.n
       have hH:=Hi.trans hi.dH hh hh2;simp only [hk,tT hi.sn hc,if_true,e1',hr'];refine .inl ⟨_,_,Γ1,Pu1,k1,rfl,⟨s2,((he2.mono (k5.cy hi.dH)).put fi o.dst k3).mono hh2.cy,?_,⟨⟨rfl,hB1,trivial⟩,hi.sn.step hH⟩,hi.rd.step hH,hold.aP k3,Ex.trans hsB k4 (Ex.trans hsB hi.dH hi.Dm k5) x2,fun j h1 h2=>(hG _).trans (hf1 j h1 h2),hroom,hpo1⟩⟩;rw [←hi.bq,List.filter_map];rfl
      .cases hlate
     .cases hlate
    grind
 .simp only [hw]
  exact .inl ⟨_,_,Γ,Pu,h,rfl,⟨hi.dH,he2.put fi o.dst (.raw Go.undef),hi.bq,hi.sn,hi.rd,(hi.old.guard hG).put (.raw Go.undef),hi.Dm,hfree,hi.room,hi.po⟩⟩
theorem CG {fi:FI} {ops:Array Oper} {n0 c:Nat} {v:Value} {J:IH}:∀ {l:List Oper} {i:Nat} {ms:List Nat} {s':DS},mA c l ms=true->aS P self fi ops n0 l i ms s' (some (c,v,J))= .panic v J:=by
 intro l
 induction l with
 |nil=>intro i ms s' _;rfl
 |cons o r ih=>
  intro i ms s' h;cases ms with
  |nil=>cases h
  |cons m ms=>
   unfold mA at h;replace h:=ae h;simp only [aS,h.1,if_true];exact ih h.2
theorem Bd (ok:ej P hint sh sf self) {fi:FI} {B:Ec} (hsB:au P hint sh B.Γ B.Pu B.H B.I) {ops:Array Oper} {R:Nat}:∀ {l:List Oper} {i:Nat} {ms:List Nat} {s:Ov} {s':DS} {Γ:aN} {Pu:Nat->Prop} {K:Ov->Option Z} {KP:Value->GH->Option Z},(∀ o∈l,kindOf P o= .fresh->i+l.length<=R)->pw dS P sh sf fi ops l i ms s K KP=some r->OY P hint sh self fi B R i Γ Pu s s'->
  (∃ s1 s1' Γ1 Pu1 i1,K s1=some r/\aS P self fi ops B.I.n l i ms s' none= .done s1'/\OY P hint sh self fi B R i1 Γ1 Pu1 s1 s1')\/
  (∃ w H1 Γ1 Pu1 I1,KP w H1=some r/\aS P self fi ops B.I.n l i ms s' none= .panic w I1/\au P hint sh Γ1 Pu1 H1 I1/\Ex (bk B.Γ B.H B.I) B.Γ B.Pu B.H B.I Γ1 Pu1 H1 I1):=by
 intro l
 induction l with
 |nil=>intro i ms s s' Γ Pu K KP _ h hi;exact .inl ⟨s,s',Γ,Pu,i,h,by rfl,hi⟩
 |cons o rest ih=>
  intro i ms s s' Γ Pu K KP hl h hi;cases ms with
  |nil=>cases h
  |cons m ms=>
   simp only [pw] at h;rcases zx ok hsB (fun hk=>by grind) h hi with ⟨s1,s1',Γ1,Pu1,k1,k2,k3⟩ |⟨w,H1,Γ1,Pu1,I1,k1,k2,k3,k4⟩
   .have hev:aS P self fi ops B.I.n (o::rest) i (m::ms) s' none=aS P self fi ops B.I.n rest (i+1) ms s1' none:=by simp only [aS,k2]
    grind
   .replace k1:=ad k1
    refine .inr ⟨w,H1,Γ1,Pu1,I1,k1.2,?_,k3,k4⟩;simp only [aS,k2];exact CG k1.1
theorem ER.lA {fi:FI}:∀ {l:List Oper} {E:GE} {E':En},ER Γ Pu I E E'->ER Γ Pu I (Go.Gv.lA fi l E) (gY fi l E'):=by
 intro l
 induction l with
 |nil=>intro E E' h;exact h
 |cons o r ih=>intro E E' h;exact ih (h.put fi o.dst (.undef _))
theorem KV (ok:ej P hint sh sf self) {fi:FI} {ops:Array Oper} {E:GE} {E':En} {D:List Deferred} {K:GE->GH->Option Z} {KP:GE->Value->GH->Option Z} (h:LC dS P sh sf fi ops E H K KP=some r) (hs:au P hint sh Γ Pu H I) (he:ER Γ Pu I E E'):
  B7 P hint sh K KP r Γ Pu H I D (rn P self fi ops E' I D):=by
 unfold LC at h;replace h:=ad h;obtain ⟨hc,h⟩:=h;have hold:oE fi ⟨Γ,Pu,H,I⟩ [] E E':=fun t _=>by
  unfold fe ft;cases cls fi t with
  |out=>exact .undef _
  |loc=>exact (he t).1
  |tmp=>exact (he t).2
 have hget:∀ b,({ I with n:=I.n+iR P ops }:IH).get b=I.get b:=fun b=>rfl
 have hkeep:cp Γ Pu I Γ Pu { I with n:=I.n+iR P ops }:=⟨fun _ _ h=>h,fun _ h=>h,fun _ _=>rfl⟩;have hs1:au P hint sh Γ Pu H { I with n:=I.n+iR P ops }:=⟨fun id o ho=>by
   obtain ⟨l,hl,_⟩:=hs.obj id o ho;exact ⟨l,hl,hs.dF hkeep ho hl fun _ _ _=>rfl⟩,hs.HH (fun _ _ _ _ _ _ _ _ _=>rfl),(fun b h=>hs.sep b (pf (fun _ _ _ _ _ _ _ _ _=>rfl) h)),hs.aT,fun b hb=>hs.fresh b (Nat.le_trans (Nat.le_add_right _ _) hb),hs.pu,Nat.le_trans hs.ro (Nat.le_add_right _ _),hs.gn,hs.cq,hs.st,hs.nK hkeep.p hkeep.i⟩
 have hb1:Ex (bk Γ H I) Γ Pu H I Γ Pu H { I with n:=I.n+iR P ops }:=⟨fun _ _ x=>x,zal _,Nat.le_add_right _ _,fun _ x=>x,fun _ _ _=>rfl,fun _ _ x=>pf (fun _ _ _ _ _ _ _ _ _=>rfl) x,fun _ _ x=> .inl x,zal _,fun _ _=> .inr (.inl rfl),fun _ _ _ _ _ _ _ _ _=>rfl⟩;have hres:∀ o∈ops.toList,kindOf P o= .fresh->0+ops.toList.length<=iR P ops:=fun o ho hk=>by
  unfold iR
  grind
 rcases Bd ok (B:=⟨Γ,Pu,H,I⟩) hs (R:=iR P ops) hres h (s':=⟨E',{ I with n:=I.n+iR P ops },[],[],[]⟩)
  ⟨hs1,he.mono hkeep,rfl,trivial,trivial,hold,hb1,fun j _ _=>hs.fresh _ (Nat.le_add_right _ _),zal _,fun j id hm=>by cases hm⟩ with ⟨s1,s1',Γ1,Pu1,i1,k1,k2,k3⟩ |⟨w,H1,Γ1,Pu1,I1,k1,k2,k3,k4⟩
 .refine .inl ⟨s1.E,s1.H,Γ1,Pu1,s1'.T,aq I.n s1'.bq s1'.H,k1,?_,k3.env,k3.dH,k3.Dm⟩
  simp only [rn,hc,if_true,k2]
 .refine .inr ⟨_,w,H1,Γ1,Pu1,_,I1,k1,?_,(he.mono (k4.cy hs)).lA,k3,k4⟩
  simp only [rn,hc,if_true,k2]
end
end Go.Gv
