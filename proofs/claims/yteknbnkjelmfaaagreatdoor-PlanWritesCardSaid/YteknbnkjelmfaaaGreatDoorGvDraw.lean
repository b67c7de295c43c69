/- The pure evaluator's regions are the ideal one's. -/
import Derived.Test.YteknbnkjelmfaaaGreatDoorGvFresh
set_option linter.unusedSimpArgs false
set_option linter.unusedVariables false
namespace Go.Gv
open Go Go.Iv
section
variable {β:Type} {P:Program} {hint:Hint} {O:Nat->Prop} {Γ Γ1:bj} {Pu Pu1:Nat->Prop} {H H1:GH} {I I1 I2:IH} {r:β} {sf:fD β} {self:Self} {sh:cz}
def WY (fi:FI) (E:GE) (E':En) (E2:GE):Prop:=E2=E∨∃ d c,E2=cN fi d (.bool c) E/\eZ fi E' d= .bool c
theorem so {fi:FI} {ops:Array Oper} {o:Oper} {E:GE} {E':En} {run skip:GE->Option β} (h:mi ek fi ops o E run skip=some r) (he:ER Γ Pu I E E'):
  (bC fi ops E' o=some true/\∃ E2,run E2=some r/\ER Γ Pu I E2 E'/\WY fi E E' E2)∨(bC fi ops E' o=some false/\∃ E2,skip E2=some r/\ER Γ Pu I E2 E'/\WY fi E E' E2):=by
 unfold mi at h;unfold bC;split at h
 ·rename_i hg
  simp only [hg];exact .inl ⟨by first |rfl |trivial,E,h,he,.inl rfl⟩
 ·rename_i j want hg
  simp only [hg];split at h
  ·rename_i d hd
   simp only [hd];have hv:GR Γ Pu I (fa fi E d) (eZ fi E' d):=by
    unfold fa eZ;cases cls fi d with
    |out=>exact .undef _
    |loc=>exact (he d).1
    |tmp=>exact (he d).2
   split at h
   ·rename_i b hb
    rw [hb] at hv;have hE2:∀ c,b=c->ER Γ Pu I (cN fi d (.bool c) E) E':=fun c hc=>he.OS d fi (by subst hc;exact hv)
    have hG:∀ c,eZ fi E' d= .bool c->WY fi E E' (cN fi d (.bool c) E):=fun c hc=> .inr ⟨d,c,rfl,hc⟩
    generalize eZ fi E' d=v at hv hG;cases hv;rcases jX h with ⟨rfl,h⟩ |⟨rfl,h⟩
    ·cases want
     ·exact .inr ⟨rfl,_,h,hE2 true rfl,hG true rfl⟩
     ·exact .inl ⟨rfl,_,h,hE2 true rfl,hG true rfl⟩
    ·cases want
     ·exact .inl ⟨rfl,_,h,hE2 false rfl,hG false rfl⟩
     ·exact .inr ⟨rfl,_,h,hE2 false rfl,hG false rfl⟩
   ·rename_i v hb
    rw [hb] at hv;generalize eZ fi E' d=v' at hv;cases hv;split at h
    ·cases h
    ·cases h
    ·rename_i h1 h2
     refine .inr ⟨?_,E,h,he,.inl rfl⟩;split
     ·exact absurd rfl (h1 _)
     ·exact absurd rfl (h2 _)
     ·rfl
   ·cases h
  ·cases h
theorem gY {o:Option ag} {v:Value} {J:IH} (h:aA o=some (v,J)):o=some (.val v J)∨(o=some (.skip J)/\v=Go.undef):=by
 unfold aA at h;split at h
 ·cases h;exact .inl rfl
 ·cases h;exact .inr ⟨rfl,rfl⟩
 ·cases h
theorem Sp (ok:fL P hint sh sf self) {fi:FI} {ro:Option Nat} {ops:Array Oper}:∀ {l:List Oper} {E:GE} {E':En} {H:GH} {I:IH} {Γ:bj} {Pu:Nat->Prop} {D:List Deferred} {K:GE->GH->Option β},r9 ek P sh sf fi ops l E H K=some r->aE P hint sh Γ Pu H I->ER Γ Pu I E E'->
  ∃ E1 H1 Γ1 Pu1 E1' I1,K E1 H1=some r/\dm P self fi ro ops l E' I D=some (.normal,E1',I1,D)/\ER Γ1 Pu1 I1 E1 E1'/\aE P hint sh Γ1 Pu1 H1 I1/\Ex (bT Γ H I) Γ Pu H I Γ1 Pu1 H1 I1:=by
 intro l
 induction l with
 |nil=>intro E E' H I Γ Pu D K h hs he;exact ⟨E,H,Γ,Pu,E',I,h,rfl,he,hs,Ex.refl hs⟩
 |cons o rest ih=>
  intro E E' H I Γ Pu D K h hs he;simp only [r9] at h;rcases so h he with ⟨hw,E2,h,he2,_⟩ |⟨hw,E2,h,he2,_⟩
  ·obtain ⟨t,H1,Γ1,Pu1,v,I1,k1,k2,k3,k4,k5⟩:=rq hs ok (cb hs he2) h
   obtain ⟨E3,H2,Γ2,Pu2,E3',I2,j1,j2,j3,j4,j5⟩:=ih (D:=D) k1 k4 ((he2.mono (k5.de hs)).put fi o.dst k3);refine ⟨E3,H2,Γ2,Pu2,E3',I2,j1,?_,j3,j4,Ex.trans hs k4 k5 j5⟩;rcases gY k2 with e |⟨e,rfl⟩
   ·simp only [dm,hw,e];exact j2
   ·simp only [dm,hw,e];exact j2
  ·obtain ⟨E3,H2,Γ2,Pu2,E3',I2,j1,j2,j3,j4,j5⟩:=ih (D:=D) h hs (he2.put fi o.dst (.raw Go.undef))
   refine ⟨E3,H2,Γ2,Pu2,E3',I2,j1,?_,j3,j4,j5⟩;simp only [dm,hw];exact j2
def Wy (P:Program) (o:Oper):TypeId:=match o.op with
 | .buildSlice t _ _=>match cK P t with
  |some (e,_)=>e
  |none=>0
 |_=>0
theorem MD:∀ {cs:List TV} {bs:List UInt8} {vs:List Value},B7 cs=some bs->bI Γ Pu I cs vs->vs=bs.map fun c=>(.int .u8 c.toNat:Value):=by
 intro cs
 induction cs with
 |nil=>intro bs vs h hr;cases h;cases hr;rfl
 |cons c r ih=>
  intro bs vs h hr;unfold B7 at h;split at h
  ·rename_i heq;cases heq
  ·rename_i c' r' heq
   cases heq;split at h
   ·rename_i l hl
    cases h;cases hr with |cons a b=>
    cases a;rw [ih hl b];rfl
   ·cases h
  ·cases h
theorem PY {fi:FI} {ops:Array Oper} {E:GE} {E':En} {o o2:Oper} {d d2:Tmp} {bs:List UInt8} (hs:aE P hint sh Γ Pu H I) (he:ER Γ Pu I E E') (h:Rc P fi E o o2=some (d,d2,bs)):
  ∃ v J,aP P self (dF fi E') I o=some (.val v J)/\aP P self (dF fi (cR fi E' (some d) v)) J o2=some (.val v (I.new (.cells (bs.map fun c=> .int .u8 c.toNat) (Wy P o) 0 true true)))/\
   o.dst=some d/\o2.dst=some d2/\o.guard=none/\o2.guard=none/\
   GR Γ (fun b=>Pu b∨b=I.n) (I.new (.cells (bs.map fun c=> .int .u8 c.toNat) (Wy P o) 0 true true)) (.aT .byte bs (some false) false) v:=by
 unfold Rc at h;split at h
 ·rename_i t len parts src dst d' d0 d20 ho ho2 hd hd2 hg hg2
  replace h:=ae h;obtain ⟨hb,h⟩:=h;replace hb:=ai hb;obtain ⟨hb,hb4⟩:=hb;replace hb:=ai hb;obtain ⟨hb,hb3⟩:=hb;replace hb:=ai hb;obtain ⟨hb1,hb2⟩:=hb;have e1:=beq_true hb1;have e2:=beq_true hb2;have e3:=beq_true hb3;have e4:d0<fi.nt:=by simpa using hb4
  split at h
  ·rename_i e0 e i hu hes
   split at h
   ·rename_i z hue hz
    replace h:=ae h;obtain ⟨hb,h⟩:=h;replace hb:=ai hb;obtain ⟨hb,hc5⟩:=hb;replace hb:=ai hb;obtain ⟨hb,hc4⟩:=hb;replace hb:=ai hb;obtain ⟨hb,hc3⟩:=hb;replace hb:=ai hb;obtain ⟨hc1,hc2⟩:=hb;split at h
    ·rename_i cells hf
     obtain ⟨vs',hf',hr'⟩:=lu (vs:=⟨dY z.cells.toList len⟩) hf hc2 (HL.map (cb hs he) parts.toList) (Dr (eD hc4) len);split at h
     ·rename_i bs0 hbs
      replace h:=ae h;obtain ⟨hlen,h⟩:=h;cases h;have hvs:=MD hbs hr';have hl:=beq_true hlen;subst e1 e2 e3;have elt:Wy P o=e:=by unfold Wy;rw [ho];simp only [hes]
      have hlu:len<gz:=by
       have:=aM hc1;have h2:len<=len*(i.size+1):=Nat.le_mul_of_pos_right _ (by omega);unfold gz;have:(2:Nat)^24<2^64:=by decide
       omega
      refine ⟨.slice (some ⟨I.n,0,none⟩) len len,bJ I e vs'.toList,?_,?_,hd,hd2,hg,hg2,?_⟩
      ·unfold aP
       simp only [ho,bg,hes,hz];rw [if_pos (by simp [(HL.map (cb hs he) parts.toList).ok hc2];exact aM hc1),if_pos (beq_true hc3),hf']
      ·rw [elt]
       unfold aP;simp only [ho2];have hop:dF fi (cR fi E' (some d) (.slice (some ⟨I.n,0,none⟩) len len)) (.tmp d)= .slice (some ⟨I.n,0,none⟩) len len:=by
        show eZ fi (mZ fi d _ E') d=_
        rw [qe,if_pos ⟨rfl,e4⟩]
       rw [hop];simp only [bb,hu,gX,beq_self_eq_true,if_true,hue];have hgn:(bJ I e vs'.toList).get I.n=some (.cells vs'.toList e 0 true false):=by unfold bJ;rw [IH.aG,if_pos rfl]
       rw [hgn];simp only [beq_self_eq_true,Bool.or_false,Bool.and_true,hs.ro,decide_true,if_true];have:(bJ I e vs'.toList).put I.n (.cells vs'.toList e 0 true true)=I.new (.cells vs'.toList e 0 true true):=IH.KF _ _ _;rw [this,hvs]
      ·rw [elt]
       refine .aT ?_ (fun c hc=>by cases hc;rfl) (fun hc=>by cases hc);refine .inr (.inl ⟨I.n,0,len,_,e,0,true,true,by rw [←hl],.inr rfl,by rw [IH.aG,if_pos rfl],.inr ⟨hlu,by omega,?_⟩,?_,?_⟩)
       ·simp [Sh.sz,hl]
       ·simp [Sh.sz]
       ·exact sr
     ·cases h
    ·cases h
   ·cases h
  ·cases h
 ·cases h
theorem Px (ok:fL P hint sh sf self) {fi:FI} {ro:Option Nat} {ops:Array Oper}:∀ (n:Nat) {l:List Oper} {E:GE} {E':En} {H:GH} {I:IH} {Γ:bj} {Pu:Nat->Prop} {D:List Deferred} {K:GE->GH->Option β},l.length<=n->vS ek P sh sf fi ops l E H K=some r->aE P hint sh Γ Pu H I->ER Γ Pu I E E'->
  ∃ E1 H1 Γ1 Pu1 E1' I1,K E1 H1=some r/\dm P self fi ro ops l E' I D=some (.normal,E1',I1,D)/\ER Γ1 Pu1 I1 E1 E1'/\aE P hint sh Γ1 Pu1 H1 I1/\Ex (bT Γ H I) Γ Pu H I Γ1 Pu1 H1 I1:=by
 intro n
 induction n with
 |zero=>
  intro l E E' H I Γ Pu D K hn h hs he;cases l with
  |nil=>exact ⟨E,H,Γ,Pu,E',I,h,rfl,he,hs,Ex.refl hs⟩
  |cons=>exact absurd hn (by simp)
 |succ n ih=>
  intro l E E' H I Γ Pu D K hn h hs he
  have step:∀ {o:Oper} {rest:List Oper} {K2:GE->GH->Option β},rest.length<=n->
    (∀ E H,K2 E H=some r->∀ {E' I Γ Pu},aE P hint sh Γ Pu H I->ER Γ Pu I E E'->∃ E1 H1 Γ1 Pu1 E1' I1,K E1 H1=some r/\dm P self fi ro ops rest E' I D=some (.normal,E1',I1,D)/\ER Γ1 Pu1 I1 E1 E1'/\aE P hint sh Γ1 Pu1 H1 I1/\Ex (bT Γ H I) Γ Pu H I Γ1 Pu1 H1 I1)->
    mi ek fi ops o E (fun E=>ja ek P sh sf (bZ fi E) H o fun v H=>K2 (c8 fi E o.dst v) H) (fun E=>K2 (c8 fi E o.dst (.raw Go.undef)) H)=some r->
    ∃ E1 H1 Γ1 Pu1 E1' I1,K E1 H1=some r/\dm P self fi ro ops (o::rest) E' I D=some (.normal,E1',I1,D)/\ER Γ1 Pu1 I1 E1 E1'/\aE P hint sh Γ1 Pu1 H1 I1/\Ex (bT Γ H I) Γ Pu H I Γ1 Pu1 H1 I1:=by
   intro o rest K2 hr hk h;rcases so h he with ⟨hw,E2,h,he2,_⟩ |⟨hw,E2,h,he2,_⟩
   ·obtain ⟨t,H1,Γ1,Pu1,v,I1,k1,k2,k3,k4,k5⟩:=rq hs ok (cb hs he2) h
    obtain ⟨E3,H2,Γ2,Pu2,E3',I2,j1,j2,j3,j4,j5⟩:=hk _ _ k1 k4 ((he2.mono (k5.de hs)).put fi o.dst k3);refine ⟨E3,H2,Γ2,Pu2,E3',I2,j1,?_,j3,j4,Ex.trans hs k4 k5 j5⟩;rcases gY k2 with e |⟨e,rfl⟩
    ·simp only [dm,hw,e];exact j2
    ·simp only [dm,hw,e];exact j2
   ·obtain ⟨E3,H2,Γ2,Pu2,E3',I2,j1,j2,j3,j4,j5⟩:=hk _ _ h hs (he2.put fi o.dst (.raw Go.undef))
    refine ⟨E3,H2,Γ2,Pu2,E3',I2,j1,?_,j3,j4,j5⟩;simp only [dm,hw];exact j2
  match l,hn,h with
  | [],hn,h=>exact ⟨E,H,Γ,Pu,E',I,h,rfl,he,hs,Ex.refl hs⟩
  | [o],hn,h=>
   exact step (K2:=K) (rest:= []) (Nat.zero_le _) (fun E H hk {E' I Γ Pu} hs he=>⟨E,H,Γ,Pu,E',I,hk,rfl,he,hs,Ex.refl hs⟩) h
  |o::o2::rest,hn,h=>
   simp only [vS] at h;split at h
   ·rename_i d d2 bs hp
    obtain ⟨v,J,a1,a2,a3,a4,a5,a6,a7⟩:=PY (self:=self) (ops:=ops) hs he hp;obtain ⟨s1,x1⟩:=hs.K3 (bs.map fun c=> .int .u8 c.toNat) (Wy P o) 0 true true;have he1:=((he.mono (x1.de hs)).put fi (some d) a7).put fi (some d2) a7;obtain ⟨E3,H2,Γ2,Pu2,E3',I2,j1,j2,j3,j4,j5⟩:=ih (l:=rest) (D:=D) (by simp at hn;omega) h s1 he1;refine ⟨E3,H2,Γ2,Pu2,E3',I2,j1,?_,j3,j4,Ex.trans hs s1 x1 j5⟩;have w1:bC fi ops E' o=some true:=by unfold bC;rw [a5]
    have w2:bC fi ops (cR fi E' (some d) v) o2=some true:=by unfold bC;rw [a6]
    simp only [dm,w1,a1,a3,w2,a2,a4];exact j2
   ·exact step (K2:=fun E H=>vS ek P sh sf fi ops (o2::rest) E H K) (rest:=o2::rest) (by simp at hn ⊢;omega) (fun E H hk {E' I Γ Pu} hs he=>ih (by simp at hn ⊢;omega) hk hs he) h
def Ur:Value->Option Nat
 | .pointer (some a)=>some a.block
 | .slice (some a) _ _=>some a.block
 |_=>none
theorem Bc {t:TypeId} {a v:Value} {J:IH} (h:dZ P I t a=some (.val v J)) (hb:∀ b,Ur a=some b->I2.get b=I.get b):dZ P I2 t a=some (.val v I2):=by
 unfold dZ at h ⊢;split at h
 ·rename_i b off
  have hg:=hb b rfl;have e:jY P I2 t b off=jY P I t b off:=by simp only [jY,IH.bx,hg]
  rw [e];split at h
  ·rename_i v' hv
   cases h;rfl
  ·cases h
 ·cases h
def Yb:Value->Bool
 | .slice _ l _=>l !=0
 |_=>true
theorem CT {src dst:TypeId} {a v:Value} {J:IH} (h1:∀ e,¬ (P.underlying src=some .string/\P.underlying dst=some (.slice e))) (h2:∀ e e',¬ (P.underlying src=some (.slice e)/\P.underlying dst=some (.slice e')))
  (h:bb P I src dst a=some (.val v J)) (hb:∀ b,Ur a=some b->Yb a=true->I2.get b=I.get b):bb P I2 src dst a=some (.val v I2):=by
 unfold bb at h ⊢;split at h
 ·split at h
  ·cases h;rfl
  ·cases h
 ·split at h
  ·cases h;rfl
  ·cases h
 ·split at h
  ·cases h;rfl
  ·cases h
 ·rename_i hs hd
  exact absurd ⟨hs,hd⟩ (h1 _)
 ·rename_i hs hd
  exact absurd ⟨hs,hd⟩ (h2 _ _)
 ·unfold cP at h ⊢
  split at h
  ·cases h;rfl
  ·rename_i b off len c hu
   split at h
   ·rename_i hl
    cases h;rw [if_pos hl]
   ·rename_i hl
    have hg:=hb b rfl (by simp [Yb,hl]);have e:I2.bx b off len=I.bx b off len:=by simp only [IH.bx,hg]
    rw [if_neg hl,e];split at h
    ·rename_i cs hcs
     split at h
     ·rename_i bs hbs
      cases h;rfl
     ·cases h
    ·cases h
  ·cases h
 ·unfold dy at h ⊢
  split at h
  ·cases h;rfl
  ·rename_i b off
   have hg:=hb b rfl rfl;rw [hg];split at h
   ·rename_i cs e f ex sd hc
    split at h
    ·rename_i hq
     cases h;rw [if_pos hq]
    ·cases h
   ·cases h
  ·cases h
 ·unfold cH at h ⊢
  split at h
  ·cases h;rfl
  ·rename_i b off
   have hg:=hb b rfl rfl;rw [hg];split at h
   ·rename_i cs e f ex sd hc
    split at h
    ·rename_i hq
     cases h;rw [if_pos hq]
    ·cases h
   ·cases h
  ·cases h
 ·cases h
def vK:Value->Bool
 | .int _ _ | .string _ | .bool _ | .agg _=>true
 |_=>false
theorem I6 {t:TypeId} {a b:Value} (ha:vK a=true) (hb:vK b=true):ep P I2 t a b=ep P I t a b:=by
 cases a<;>first |(cases ha;done) |skip
 all_goals cases b<;>first |(cases hb;done) |skip
 all_goals
  unfold ep;cases P.underlying t with
  |none=>rfl
  |some d=>cases d<;>rfl
theorem NV {op:BinOp} {t:TypeId} {x y:Operand} {a b v:Value} {J:IH} (ha:vK a=true) (hb:vK b=true) (h:aD P I op t x y a b=some (.val v J)):aD P I2 op t x y a b=some (.val v I2):=by
 have heq:∀ neg,bR P I neg t x y a b=some (.val v J)->bR P I2 neg t x y a b=some (.val v I2):=by
  intro neg h;have e:=I6 (P:=P) (I:=I) (I2:=I2) (t:=t) ha hb;simp only [bR] at h ⊢;split at h
  ·split at h
   ·rename_i hk;cases h;rw [if_pos hk]
   ·cases h
  ·cases h;rfl
  ·simp only [e]
   split at h
   ·cases h;rfl
   ·split at h
    ·rename_i hf
     rw [if_pos hf];split at h
     ·split at h
      ·rename_i hk;cases h;rw [if_pos hk]
      ·cases h
     ·cases h
    ·cases h
 simp only [aD] at h ⊢;split at h
 ·exact heq _ h
 ·exact heq _ h
 all_goals
  cases a<;>first |(cases ha;done) |skip
  all_goals cases b<;>first |(cases hb;done) |skip
  all_goals simp only [reduceCtorEq] at h ⊢
  all_goals first
   |done
   |(cases h;rfl)
   |(
     split at h
     ·first
      |(rename_i hk;cases h;rw [if_pos hk];done)
      |(
       split at h
       ·first
        |(rename_i hk;cases h;rw [if_pos hk];done)
        |(
          split at h
          ·rename_i hk;cases h;rw [if_pos hk]
          ·cases h)
       ·cases h)
     ·cases h)
theorem AW {t:TV} {v:Value} (h:Js t=true) (hr:GR Γ Pu I t v):vK v=true:=by
 cases hr<;>first |rfl |(cases h)
theorem Ix {o:Option Value} {v:Value} {J:IH} (h:Iv.valOf I o=some (.val v J)):Iv.valOf I2 o=some (.val v I2):=by
 unfold Iv.valOf at h ⊢;split at h
 ·cases h;rfl
 ·cases h
theorem nL {s:Sem Value} {v:Value} {J:IH} (h:cu P I s=some (.val v J)):cu P I2 s=some (.val v I2):=by
 unfold cu at h ⊢;split at h
 ·split at h
  ·rename_i hk;cases h;rw [if_pos hk]
  ·cases h
 ·cases h
theorem PO {t:TypeId} {x:Value} (hx:(∃ s,x= .string s)∨(∃ a l c,x= .slice a l c)∨x= .map none∨∃ b,x= .map (some b)/\I2.get b=I.get b):eA P I2 t x=eA P I t x:=by
 unfold eA;rcases hx with ⟨s,rfl⟩ |⟨a,l,c,rfl⟩ |rfl |⟨b,rfl,hb⟩
 ·cases P.underlying t with
  |none=>rfl
  |some d=>cases d<;>rfl
 ·cases P.underlying t with
  |none=>rfl
  |some d=>cases d<;>rfl
 ·cases P.underlying t with
  |none=>rfl
  |some d=>cases d<;>rfl
 ·cases P.underlying t with
  |none=>rfl
  |some d=>cases d<;>simp only [hb]
theorem Gf {t:TypeId} {x k:Value} {ok:Bool} {v:Value} {J:IH} (h:cA P I t x k ok=some (.val v J)) (hb:∀ b,x= .map (some b)->I2.get b=I.get b):cA P I2 t x k ok=some (.val v I2):=by
 unfold cA at h ⊢;split at h
 ·simp only [hb _ rfl]
  split at h
  ·rename_i es ck hg
   split at h
   ·rename_i hk
    rw [if_pos hk];split at h
    ·cases h;rfl
    ·split at h
     ·cases h;rfl
     ·cases h
    ·cases h
   ·cases h
  ·cases h
 ·split at h
  ·rename_i hk
   rw [if_pos hk];split at h
   ·cases h;rfl
   ·cases h
  ·cases h
 ·cases h
theorem bW.CH {e:Sh} {xs:List e.ty} {v:Value} (h:bW Pu I (.cy e) xs [v]):v= .slice none 0 0∨∃ b off len cap,v= .slice (some ⟨b,off,none⟩) len cap/\(Pu b∨len=0):=by
 unfold bW at h;rcases h with ⟨_,h⟩ |⟨b,off,cap,cs,et,fz,ex,sd,h,hb,_⟩ |⟨_,b,h⟩
 ·cases h;exact .inl rfl
 ·cases h;exact .inr ⟨b,off,_,cap,rfl,.inl hb⟩
 ·cases h;exact .inr ⟨b,0,0,0,rfl,.inr rfl⟩
theorem mG {l:Loc} {off len:Nat} {v:Value} (h:iq l off len v):v= .slice none 0 0∨∃ b o o' n cap,v= .slice (some ⟨b,o,none⟩) n cap/\l.pos=some (b,o'):=by
 unfold iq at h;split at h
 ·exact .inl h.1
 ·rename_i b o hp
  obtain ⟨cap,rfl,_⟩:=h;exact .inr ⟨b,_,o,_,cap,rfl,hp⟩
theorem CZ {Z:Operand->TV} {Z':Operand->Value} {o:Oper} {ids:List Nat} {p:Bool} {v:Value} {J:IH} (hk:kindOf P o= .read) (ht:km Z o=some (ids,p)) (hρ:∀ x,GR Γ Pu I (Z x) (Z' x)) (h:aP P self Z' I o=some (.val v J))
  (h1:∀ id∈ids,∀ l b x,Γ id=some l->l.pos=some (b,x)->I2.get b=I.get b) (h2:p=true->∀ b,Pu b->I2.get b=I.get b):aP P self Z' I2 o=some (.val v I2):=by
 unfold km at ht;split at ht
 ·rename_i t a ho
  simp only [aP,ho] at h ⊢;have hv:=hρ a;generalize Z' a=w at hv h;generalize Z a=q at ht hv;refine Bc h fun b hb=>?_
  split at ht
  ·cases ht
   cases hv with |ptr hl hp=>cases hb;exact h1 _ (List.mem_cons_self ..) _ _ _ hl hp
  ·cases ht
   cases hv with |ng hl hp=>cases hb;exact h1 _ (List.mem_cons_self ..) _ _ _ hl hp
  ·cases ht
   cases hv with |oe hb' _ _ _=>cases hb;exact h2 rfl _ hb'
  ·cases ht
 ·rename_i op t x y yt ho
  simp only [aP,ho] at h ⊢;replace ht:=ae ht;obtain ⟨hc,ht⟩:=ht;simp only [zae] at hc;exact NV (AW hc.1 (hρ x)) (AW hc.2 (hρ y)) h
 ·rename_i t x k ok ho
  simp only [aP,ho] at h ⊢;have hv:=hρ x;generalize Z' x=w at hv h;generalize Z x=q at ht hv;refine Gf h fun b hb=>?_
  split at ht
  ·cases ht
   cases hv with |mp hl hm=>
   unfold RI at hm;split at hm
   ·subst hm;cases hb
   ·rename_i b' x' hp
    subst hm;cases hb;exact h1 _ (List.mem_cons_self ..) _ _ _ hl hp
  ·cases ht;cases hv;cases hb
  ·cases ht
 ·rename_i c ho
  obtain ⟨callee,args,ats⟩:=c;simp only at ht;split at ht
  ·split at ht
   ·rename_i x hx
    simp only [aP,ho,cZ,hx,List.map_cons,List.map_nil,bc] at h ⊢;have hv:=hρ x;generalize Z' x=w at hv h;generalize Z x=q at ht hv;have hx:(∃ s,w= .string s)∨(∃ a l c,w= .slice a l c)∨w= .map none∨∃ b,w= .map (some b)/\I2.get b=I.get b:=by
     split at ht
     ·cases hv;exact .inl ⟨_,rfl⟩
     ·cases hv with |aT he _ _=>rcases he.CH with h |⟨_,_,_,_,h,_⟩<;>exact .inr (.inl ⟨_,_,_,h⟩)
     ·cases hv with |all _ he=>rcases mG he with h |⟨_,_,_,_,_,h,_⟩<;>exact .inr (.inl ⟨_,_,_,h⟩)
     ·cases hv with |own _ _ he=>rcases mG he with h |⟨_,_,_,_,_,h,_⟩<;>exact .inr (.inl ⟨_,_,_,h⟩)
     ·cases hv;exact .inr (.inl ⟨_,_,_,rfl⟩)
     ·cases hv with |mp hl hm=>
      cases ht;unfold RI at hm;split at hm
      ·exact .inr (.inr (.inl hm))
      ·rename_i b _ hp
       exact .inr (.inr (.inr ⟨b,hm,h1 _ (List.mem_cons_self ..) _ _ _ hl hp⟩))
     ·cases ht
    split at h
    ·rename_i t hat
     simp only [PO (P:=P) (I:=I) (I2:=I2) hx];exact Ix h
    ·cases h
   ·cases ht
  ·simp only [aP,ho,cZ,bc] at h ⊢
   split at h
   ·rename_i hf
    rw [if_pos hf];exact nL h
   ·cases h
  ·simp only [aP,ho,cZ,bc] at h ⊢
   split at h
   ·rename_i hf
    rw [if_pos hf];exact nL h
   ·cases h
  ·simp only [aP,ho,cZ] at h ⊢
   generalize args.toList.map Z'=l at h ⊢;unfold bc at h ⊢;cases l with
   |nil=>simp at h
   |cons a r=>
    cases r with
    |cons b r=>simp at h
    |nil=>
     cases a with
     |slice q n k=>
      cases q with
      |none=>cases h;rfl
      |some q=>
       simp only at h ⊢;split at h
       ·cases h
       ·rename_i hn;rw [if_neg hn];cases h;rfl
     |_=>simp at h
  ·cases ht
 ·rename_i src dst x ho
  simp only [aP,ho] at h ⊢;have hv:=hρ x;generalize Z' x=w at hv h;generalize Z x=q at ht hv;refine CT (fun e he=>?_) (fun e e' he=>?_) h fun b hb hnz=>?_
  ·simp only [kindOf,ho,he.1,he.2] at hk;cases hk
  ·simp only [kindOf,ho,he.1,he.2] at hk;cases hk
  ·split at ht
   ·cases ht
    cases hv with |all hl he=>
    rcases mG he with rfl |⟨_,_,_,_,_,rfl,hp⟩
    ·cases hb
    ·cases hb;exact h1 _ (List.mem_cons_self ..) _ _ _ hl hp
   ·cases ht
    cases hv with |own hl _ he=>
    rcases mG he with rfl |⟨_,_,_,_,_,rfl,hp⟩
    ·cases hb
    ·cases hb;exact h1 _ (List.mem_cons_self ..) _ _ _ hl hp
   ·cases hv;cases hb
   ·cases hv;cases hb
   ·cases hv;cases hb
   ·cases ht
    cases hv with |aT he _ _=>
    rcases he.CH with rfl |⟨_,_,_,_,rfl,hp⟩
    ·cases hb
    ·cases hb
     rcases hp with hp |rfl
     ·exact h2 rfl _ hp
     ·cases hnz
   ·cases ht
 ·cases ht
theorem A7 {t:TV} {v:Value} (h:lr t=true) (hr:GR Γ Pu I t v):kY v v=true:=by
 cases hr with
 |aT he _ _=>rcases he.CH with rfl |⟨_,_,_,_,rfl,_⟩<;>simp [kY]
 |all _ he=>rcases mG he with rfl |⟨_,_,_,_,_,rfl,_⟩<;>simp [kY]
 |own _ _ he=>rcases mG he with rfl |⟨_,_,_,_,_,rfl,_⟩<;>simp [kY]
 |raw v=>unfold lr at h;simp only at h;split at h<;>first |(simp [kY];done) |cases h
 |agg |jD |fn |mI |undef=>cases h
 |mp _ he=>obtain ⟨q,rfl⟩:=he.map;simp [kY]
 |_=>simp [kY]
theorem qa {cs:List TV} {vs:List Value} (h:cs.all lr=true) (hr:bI Γ Pu I cs vs):mu vs vs=true:=by
 induction cs generalizing vs with
 |nil=>cases hr;rfl
 |cons c r ih=>
  cases hr with |cons a b=>
  simp only [List.all_cons,zae] at h;simp only [mu,A7 h.1 a,ih h.2 b,zai]
theorem LY {v:Value} (h:kY v v=true):kX v v=true:=by
 cases v<;>first |exact h |cases h
theorem Hg {t:TV} {v:Value} (h:J7 t=true) (hr:GR Γ Pu I t v):kX v v=true:=by
 unfold J7 at h;split at h
 ·cases hr with |agg hs=>exact qa h hs
 ·cases hr with |jD hs=>exact qa h hs
 ·cases hr with |fn ha hc=>
  simp only [zae] at h;simp only [kX,beq_self_eq_true,zak];rw [qa h.1 ha,qa h.2 hc];rfl
 ·exact LY (A7 h hr)
theorem Fh {Z':Operand->Value} {o:Oper} {J:IH} (hk:kindOf P o= .read):aP P self Z' I o≠some (.skip J):=by
 intro h;cases ho:o.op with
 |load t a=>
  simp only [aP,ho,dZ] at h
  repeat' split at h
  all_goals cases h
 |lookup t x k ok=>
  simp only [aP,ho,cA] at h
  repeat' split at h
  all_goals cases h
 |binOp op t x y yt=>
  simp only [aP,ho,aD,bR] at h
  repeat' split at h
  all_goals cases h
 |convert src dst x=>
  simp only [aP,ho,bb,cP,dy,cH,eS] at h;split at h
  all_goals first
   |(exfalso;rename_i e1 e2;simp only [kindOf,ho,e1,e2] at hk;cases hk;done)
   |(
     repeat' split at h
     all_goals cases h)
 |call c=>
  obtain ⟨callee,args,ats⟩:=c;cases callee with
  |builtin b=>
   simp only [aP,ho,cZ] at h;unfold bc at h;split at h
   all_goals first
    |(simp [kindOf,ho] at hk;done)
    |(
      simp only [cu,Iv.valOf] at h
      repeat' split at h
      all_goals cases h)
    |(
      repeat' split at h
      all_goals cases h)
  |value f=>simp [kindOf,ho] at hk
  |invoke r n=>simp [kindOf,ho] at hk
 |_=>simp [kindOf,ho] at hk
structure Iw where
 Γ:bj
 Pu:Nat->Prop
 H:GH
 I:IH
structure Hi (Γ:bj) (Pu:Nat->Prop) (H:GH) (I:IH) (Γ1:bj) (Pu1:Nat->Prop) (H1:GH) (I1:IH):Prop where
 g:∀ id l,Γ id=some l->Γ1 id=some l
 p:∀ b,Pu b->Pu1 b
 i:∀ b,Pu b->I1.get b=I.get b
 hn:H.n<=H1.n
 ck:H.ck<=H1.ck
 Cz:∀ id,id<H.n->H1.br id=none∨H1.br id=H.br id∨∃ s,H1.br id=some s/\H.ck<=s
 lh:∀ id l b x s,H.br id=some s->H1.br id=some s->Γ id=some l->l.pos=some (b,x)->I1.get b=I.get b
theorem Hi.refl:Hi Γ Pu H I Γ Pu H I:=⟨fun _ _ h=>h,fun _ h=>h,fun _ _=>rfl,zam _,zam _,fun _ _=> .inr (.inl rfl),fun _ _ _ _ _ _ _ _ _=>rfl⟩
theorem Hi.of {O:Nat->Prop} (hs:aE P hint sh Γ Pu H I) (h:Ex O Γ Pu H I Γ1 Pu1 H1 I1) (ho:∀ b,Pu b->¬ O b):Hi Γ Pu H I Γ1 Pu1 H1 I1:=
 ⟨h.g,h.p,fun b hb=>h.cQ b (hs.mq hb) (ho b hb),h.hn,h.ck,h.Cz,h.lh⟩
theorem Hi.trans {Γ2:bj} {Pu2:Nat->Prop} {H2:GH} (hs:aE P hint sh Γ Pu H I) (h:Hi Γ Pu H I Γ1 Pu1 H1 I1) (k:Hi Γ1 Pu1 H1 I1 Γ2 Pu2 H2 I2):Hi Γ Pu H I Γ2 Pu2 H2 I2 where
 g:=fun id l x=>k.g id l (h.g id l x)
 p:=fun b x=>k.p b (h.p b x)
 i:=fun b hb=>(k.i b (h.p b hb)).trans (h.i b hb)
 hn:=Nat.le_trans h.hn k.hn
 ck:=Nat.le_trans h.ck k.ck
 Cz:=fun id hid=>by
  rcases k.Cz id (Nat.lt_of_lt_of_le hid h.hn) with x |x |⟨s,x,y⟩
  ·exact .inl x
  ·rw [x];exact h.Cz id hid
  ·exact .inr (.inr ⟨s,x,Nat.le_trans h.ck y⟩)
 lh:=fun id l b x s hs0 hs2 hl hp=>by
  have hid:=hs.bm id l hl;have hlt:=hs.st id s hs0;rcases k.Cz id (Nat.lt_of_lt_of_le hid h.hn) with y |y |⟨s',y,z⟩
  ·rw [y] at hs2;cases hs2
  ·rw [y] at hs2
   exact (k.lh id l b x s hs2 (y.trans hs2) (h.g id l hl) hp).trans (h.lh id l b x s hs0 hs2 hl hp)
  ·rw [y] at hs2;cases hs2
   have:=h.ck;omega
theorem Hi.de (h:Hi Γ Pu H I Γ1 Pu1 H1 I1):db Γ Pu I Γ1 Pu1 I1:=⟨h.g,h.p,h.i⟩
def QO (P:Program) (hint:Hint) (sh:cz) (H0:GH) (I0:IH) (Γ:bj) (Pu:Nat->Prop) (H:GH) (I:IH):Prop:=
 ∃ Γ0 Pu0,aE P hint sh Γ0 Pu0 H0 I0/\Hi Γ0 Pu0 H0 I0 Γ Pu H I
theorem QO.step {H0:GH} {I0:IH} (h:QO P hint sh H0 I0 Γ Pu H I) (e:Hi Γ Pu H I Γ1 Pu1 H1 I1):QO P hint sh H0 I0 Γ1 Pu1 H1 I1:=by
 obtain ⟨Γ0,Pu0,s0,e0⟩:=h;exact ⟨Γ0,Pu0,s0,Hi.trans s0 e0 e⟩
theorem B0 {f g:Nat->Option Nat} {ids:List Nat} (h:ze (ids.map f) (ids.map g)=true):∀ id∈ids,∃ s,f id=some s/\g id=some s:=by
 induction ids with
 |nil=>intro id hi;cases hi
 |cons a r ih=>
  simp only [List.map_cons] at h;cases hf:f a with
  |none=>rw [hf] at h;cases h
  |some x=>
   cases hg:g a with
   |none=>rw [hf,hg] at h;cases h
   |some y=>
    rw [hf,hg] at h;simp only [ze,zae] at h;have:=Nat.eq_of_beq_eq_true h.1;subst this;intro id hi;rcases List.mem_cons.1 hi with rfl |hi
    ·exact ⟨x,hf,hg⟩
    ·exact ih h.2 id hi
def T5 (P:Program) (hint:Hint) (sh:cz) (o:Option GH) (I0:IH) (Γ:bj) (Pu:Nat->Prop) (H:GH) (I:IH):Prop:=
 match o with
 |some H0=>QO P hint sh H0 I0 Γ Pu H I
 |none=>True
def TQ (P:Program) (hint:Hint) (sh:cz) (B:Iw) (Γ:bj) (Pu:Nat->Prop) (H:GH) (I:IH):List (Nat×Option GH)->List (Nat×IH)->Prop
 | [],[]=>True
 |(c,q)::r,(c',I0)::r'=>(c=c'/\(∀ b,B.Pu b->I0.get b=B.I.get b)/\T5 P hint sh q I0 Γ Pu H I)/\TQ P hint sh B Γ Pu H I r r'
 |_,_=>False
theorem TQ.step {B:Iw} {l:List (Nat×Option GH)} {l':List (Nat×IH)} (h:TQ P hint sh B Γ Pu H I l l') (e:Hi Γ Pu H I Γ1 Pu1 H1 I1):TQ P hint sh B Γ1 Pu1 H1 I1 l l':=by
 induction l generalizing l' with
 |nil=>cases l' with
  |nil=>trivial
  |cons _ _=>exact h.elim
 |cons p r ih=>cases l' with
  |nil=>exact h.elim
  |cons q r'=>
   obtain ⟨c,o⟩:=p;obtain ⟨⟨h1,h2,h3⟩,h4⟩:=h;refine ⟨⟨h1,h2,?_⟩,ih h4⟩;cases o with
   |none=>trivial
   |some H0=>exact QO.step h3 e
theorem yM {B:Iw} {m:Nat} {l:List (Nat×Option GH)} {l':List (Nat×IH)} (h:TQ P hint sh B Γ Pu H I l l') (hc:qy m l=true):chained m l'=true:=by
 induction l generalizing l' with
 |nil=>cases l' with
  |nil=>rfl
  |cons _ _=>exact h.elim
 |cons p r ih=>cases l' with
  |nil=>exact h.elim
  |cons q r'=>
   obtain ⟨⟨h1,h2,h3⟩,h4⟩:=h;obtain ⟨c,H0⟩:=p;obtain ⟨c',I0⟩:=q;subst h1;simp only [qy,zae] at hc;simp only [chained,hc.1,ih h4 hc.2,zai]
theorem I3 {B:Iw} {fi:FI} {E:GE} {T:En} {o:Oper} {v:Value} {ids:List Nat} {p:Bool} {m:Nat} (hk:kindOf P o= .read) (hs:aE P hint sh Γ Pu H I) (he:ER Γ Pu I E T) (ht:km (bZ fi E) o=some (ids,p))
  (hv:aP P self (dF fi T) I o=some (.val v I)) (hsame:kX v v=true) {l:List (Nat×Option GH)} {l':List (Nat×IH)} (h:TQ P hint sh B Γ Pu H I l l') (hc:qo H ids p m l=true):fc P self fi T o v m l'=true:=by
 induction l generalizing l' with
 |nil=>cases l' with
  |nil=>rfl
  |cons _ _=>exact h.elim
 |cons a r ih=>cases l' with
  |nil=>exact h.elim
  |cons b r'=>
   obtain ⟨⟨h1,h2,h3⟩,h4⟩:=h;obtain ⟨c,q⟩:=a;obtain ⟨c',I0⟩:=b;subst h1;simp only [qo,zae,Bool.or_eq_true] at hc;simp only [fc,ih h4 hc.2,Bool.and_true,Bool.or_eq_true];rcases hc.1 with hc |hq
   ·exact .inl hc
   ·right
    cases q with
    |none=>cases hq
    |some H0=>
     simp only [zae,Bool.not_eq_true'] at hq;obtain ⟨hp,hst⟩:=hq;obtain ⟨Γ0,Pu0,s0,e0⟩:=h3;have:=CZ (self:=self) (I2:=I0) hk ht (cb hs he) hv (fun id hi l b x hl hpos=>by
      obtain ⟨s,q1,q2⟩:=B0 hst id hi;obtain ⟨ob,hob⟩:=GH.ig q1;obtain ⟨l0,hl0,_⟩:=s0.obj id ob hob;have:=e0.g id l0 hl0;cases this.symm.trans hl;exact (e0.lh id l b x s q1 q2 hl0 hpos).symm) (fun hp'=>by rw [hp] at hp';cases hp')
     simp only [sameAt,BY,this,hsame]
def XE (P:Program) (hint:Hint) (sh:cz) (self:Self) (fi:FI) (Γ:bj) (Pu:Nat->Prop) (H:GH) (I:IH) (g:VK) (q:Rd):Prop:=
 g.i=q.i/\∃ Γ0 Pu0 H0 I0 E0 p,aE P hint sh Γ0 Pu0 H0 I0/\Hi Γ0 Pu0 H0 I0 Γ Pu H I/\ER Γ0 Pu0 I0 E0 q.T/\kindOf P q.o= .read/\km (bZ fi E0) q.o=some (g.ids,p)/\g.st=g.ids.map H0.br/\
  aP P self (dF fi q.T) I0 q.o=some (.val q.v I0)/\kX q.v q.v=true
def VN (P:Program) (hint:Hint) (sh:cz) (self:Self) (fi:FI) (Γ:bj) (Pu:Nat->Prop) (H:GH) (I:IH):List VK->List Rd->Prop
 | [],[]=>True
 |g::r,q::r'=>XE P hint sh self fi Γ Pu H I g q/\VN P hint sh self fi Γ Pu H I r r'
 |_,_=>False
theorem VN.step {fi:FI} {l:List VK} {l':List Rd} (h:VN P hint sh self fi Γ Pu H I l l') (e:Hi Γ Pu H I Γ1 Pu1 H1 I1):VN P hint sh self fi Γ1 Pu1 H1 I1 l l':=by
 induction l generalizing l' with
 |nil=>cases l' with
  |nil=>trivial
  |cons _ _=>exact h.elim
 |cons p r ih=>cases l' with
  |nil=>exact h.elim
  |cons q r'=>
   obtain ⟨⟨h1,Γ0,Pu0,H0,I0,E0,pp,k1,k2,k3⟩,h3⟩:=h;exact ⟨⟨h1,Γ0,Pu0,H0,I0,E0,pp,k1,Hi.trans k1 k2 e,k3⟩,ih h3⟩
theorem wP {fi:FI} {m:Nat} {l:List VK} {l':List Rd} (h:VN P hint sh self fi Γ Pu H I l l') (hc:lQ H m l=true):fQ P self fi I m l'=true:=by
 induction l generalizing l' with
 |nil=>cases l' with
  |nil=>rfl
  |cons _ _=>exact h.elim
 |cons g r ih=>cases l' with
  |nil=>exact h.elim
  |cons q r'=>
   obtain ⟨⟨h1,Γ0,Pu0,H0,I0,E0,p,s0,e0,he,hk,ht,hst,hv,hsame⟩,h3⟩:=h;simp only [lQ,zae,Bool.or_eq_true] at hc;simp only [fQ,ih h3 hc.2,Bool.and_true,Bool.or_eq_true];rcases hc.1 with hc |hq
   ·rw [h1] at hc;exact .inl hc
   ·right
    rw [hst] at hq;have:=CZ (self:=self) (I2:=I) hk ht (cb s0 he) hv (fun id hi l b x hl hpos=>by
     obtain ⟨s,q1,q2⟩:=B0 hq id hi;exact e0.lh id l b x s q1 q2 hl hpos) (fun _ b hb=>e0.i b hb)
    simp only [sameAt,BY,this,hsame]
theorem ED {B:Iw} {fi:FI} {T:En} {o:Oper} {v:Value} {m:Nat} (h0:∀ I2,(∀ b,B.Pu b->I2.get b=B.I.get b)->aP P self (dF fi T) I2 o=some (.val v I2)) (hsame:kX v v=true)
  {l:List (Nat×Option GH)} {l':List (Nat×IH)} (h:TQ P hint sh B Γ Pu H I l l'):fc P self fi T o v m l'=true:=by
 induction l generalizing l' with
 |nil=>cases l' with
  |nil=>rfl
  |cons _ _=>exact h.elim
 |cons a r ih=>cases l' with
  |nil=>exact h.elim
  |cons b r'=>
   obtain ⟨⟨h1,h2,h3⟩,h4⟩:=h;obtain ⟨c,q⟩:=a;obtain ⟨c',I0⟩:=b;subst h1;have:=h0 I0 h2;simp only [fc,ih h4,Bool.and_true,sameAt,BY,this,hsame,Bool.or_true]
def pK (fi:FI) (B:Iw) (aY:List Nat) (E:GE) (T:En):Prop:=∀ t,sK aY t=false->GR B.Γ B.Pu B.I (fa fi E t) (eZ fi T t)
theorem PB {fi:FI} {E:GE} {T:En} {d k:Nat} {t:TV} {v:Value} (h1:k=d->GR Γ Pu I t v) (h2:k≠d->GR Γ Pu I (fa fi E k) (eZ fi T k)):GR Γ Pu I (fa fi (cN fi d t E) k) (eZ fi (mZ fi d v T) k):=by
 by_cases hk:k=d
 ·subst hk
  have hv:=h1 rfl;unfold fa eZ cN mZ;cases hc:cls fi k with
  |out=>exact .undef _
  |loc=>
   show GR Γ Pu I (eX (nf E.loc k t) k) (lk (Iv.MI T.loc k v) k)
   rw [fx,yj,if_pos rfl,if_pos rfl];exact hv
  |tmp=>
   show GR Γ Pu I (eX (.c k t E.tmp) k) (lk (.c k v T.tmp) k)
   simp only [eX,lk,Nat.beq_refl,zac];exact hv
 ·have h:=h2 hk
  have hb:Nat.beq d k=false:=gN (Ne.symm hk);have e1:fa fi (cN fi d t E) k=fa fi E k:=by
   unfold fa cN;cases cls fi d<;>cases cls fi k<;>simp only [fx,if_neg hk,eX,hb,zab]
  have e2:eZ fi (mZ fi d v T) k=eZ fi T k:=by
   unfold eZ mZ;cases cls fi d<;>cases cls fi k<;>simp only [yj,if_neg hk,lk,hb,zab]
  rw [e1,e2];exact h
theorem Tc {fi:FI} {E:GE} {T:En} {d k:Nat} {t:TV} (h1:GR Γ Pu I t (eZ fi T d)) (h2:GR Γ Pu I (fa fi E k) (eZ fi T k)):GR Γ Pu I (fa fi (cN fi d t E) k) (eZ fi T k):=by
 by_cases hk:k=d
 ·subst hk
  unfold fa cN;cases hc:cls fi k with
  |out=>exact .undef _
  |loc=>
   show GR Γ Pu I (eX (nf E.loc k t) k) _
   rw [fx,if_pos rfl];exact h1
  |tmp=>
   show GR Γ Pu I (eX (.c k t E.tmp) k) _
   simp only [eX,Nat.beq_refl,zac];exact h1
 ·have hb:Nat.beq d k=false:=gN (Ne.symm hk)
  have e1:fa fi (cN fi d t E) k=fa fi E k:=by
   unfold fa cN;cases cls fi d<;>cases cls fi k<;>simp only [fx,if_neg hk,eX,hb,zab]
  rw [e1];exact h2
theorem pK.guard {fi:FI} {B:Iw} {aY:List Nat} {E E2:GE} {T:En} (h:pK fi B aY E T) (hg:WY fi E T E2):pK fi B aY E2 T:=by
 rcases hg with rfl |⟨d,c,rfl,hd⟩
 ·exact h
 ·intro k hk
  exact Tc (by rw [hd];exact .bool c) (h k hk)
theorem pK.put {fi:FI} {B:Iw} {aY:List Nat} {E:GE} {T:En} (h:pK fi B aY E T) {d:Option Tmp} {t:TV} {v:Value} (hv:GR B.Γ B.Pu B.I t v):pK fi B aY (c8 fi E d t) (cR fi T d v):=by
 cases d with
 |none=>exact h
 |some d=>exact fun k hk=>PB (fun _=>hv) fun _=>h k hk
theorem MW {t:TV} {v:Value} {Γ':bj} {Pu':Nat->Prop} {I':IH} (hp:gM t=true) (h:GR Γ Pu I t v):GR Γ' Pu' I' t v:=by
 cases h<;>first |(cases hp;done) |skip
 ·exact .int _ _
 ·exact .byte _
 ·exact .bool _
 ·exact .str _
theorem pK.aY {fi:FI} {B:Iw} {aY:List Nat} {E:GE} {T:En} (h:pK fi B aY E T) {d:Option Tmp} {t:TV} {v:Value} (hv:GR Γ Pu I t v):pK fi B (ju (gM t) d aY) (c8 fi E d t) (cR fi T d v):=by
 unfold ju;cases hp:gM t with
 |true=>exact h.put (MW hp hv)
 |false=>
  cases d with
  |none=>exact h
  |some d=>
   intro k hk;simp only [zab,sK] at hk;refine PB (fun e=>?_) fun _=>h k ?_
   ·subst e;simp at hk
   ·revert hk;cases sK aY k<;>simp
theorem py {fi:FI} {B:Iw} {aY:List Nat} {E:GE} {T:En} (h:pK fi B aY E T) {x:Operand} (hx:LM aY x=true):GR B.Γ B.Pu B.I (bZ fi E x) (dF fi T x):=by
 cases x with
 |tmp t=>exact h t (by simpa [LM] using hx)
 |_=>cases hx
theorem IJ {fi:FI} {B:Iw} {aY:List Nat} {E:GE} {T:En} {o:Oper} {K:TV->GH->Option β} (h:pK fi B aY E T) (he:ER Γ Pu I E T) (hs:aE P hint sh Γ Pu H I) (ho:vv (bZ fi E) aY o=true) (hg:ja ek P sh sf (bZ fi E) H o K=some r):
  ∃ t v,K t H=some r/\GR B.Γ B.Pu B.I t v/\aP P self (dF fi T) I o=some (.val v I):=by
 unfold vv at ho;split at ho
 ·rename_i x hop
  simp only [ja,hop] at hg;exact ⟨_,_,hg,py h ho,by simp only [aP,hop]⟩
 ·rename_i x hop
  simp only [ja,hop] at hg;exact ⟨_,_,hg,py h ho,by simp only [aP,hop]⟩
 ·rename_i t x ix hop
  simp only [zae] at ho;have h1:=py h ho.1;have h2:=cb (fi:=fi) hs he ix;simp only [ja,hop] at hg;simp only [aP,hop];have hc:=ho.2;generalize dF fi T x=x' at h1;generalize dF fi T ix=ix' at h2;generalize bZ fi E x=gx at h1 hc hg;generalize bZ fi E ix=gi at h2 hc hg;split at hc
  ·rename_i e xs nl cl k i
   cases h2;cases h1 with |aT hen _ _=>
   simp only [WQ] at hg;rw [uy] at hg;unfold fJ at hg;split at hg
   ·rename_i e2 e1;cases e1;cases e2
   ·rename_i e0 s0 xs0 _ _ _ i0 hu q1 q2
    cases q1;cases q2;split at hg
    ·rename_i inf hinf
     replace hg:=ae hg;obtain ⟨hb,hg⟩:=hg;replace hg:=aN hg;obtain ⟨hc,hg⟩:=hg;replace hg:=jS hg;obtain ⟨y,hy,hg⟩:=hg;obtain ⟨b,off,cap,rfl,hr⟩:=hen.at (Γ:=B.Γ) hy;have hlt:i.toNat<xs.length:=(List.getElem?_eq_some_iff.1 hy).1;simp only [bt,hu,hinf,sV (bB hc) hlt,if_true];rw [←beq_true hb];exact ⟨_,_,hg,hr,rfl⟩
    ·cases hg
   ·rename_i e2 e1;cases e1;cases e2
   ·rename_i e2 e1;cases e1;cases e2
   ·cases hg
  ·cases hc
 ·rename_i s x f hop
  simp only [zae] at ho;have h1:=py h ho.1;simp only [ja,hop] at hg;simp only [aP,hop];have hc:=ho.2;generalize dF fi T x=x' at h1;generalize bZ fi E x=gx at h1 hc hg;split at hc
  ·rename_i cs
   cases h1 with |oe a b c d=>
   unfold iS at hg;split at hg
   ·rename_i fs hu
    split at hg
    ·rename_i fd hfd
     split at hg
     ·rename_i i hi
      cases hz:Nat.beq i.size 0 with
      |true=>rw [hz] at hg;cases hg
      |false=>
       rw [hz] at hg;simp only [zab] at hg;have hne:i.size≠0:=fun e=>by rw [e] at hz;cases hz
       replace hg:=ae hg;obtain ⟨hb,hg⟩:=hg;have hl:=aM hb;simp only [cg,hu,hfd,hi,if_neg hne];refine ⟨_,_,hg,.oe a b (by simp;omega) ?_,rfl⟩;have:=d.drop fd.offset;rw [List.drop_take,zal] at this;simpa using this
     ·cases hg
    ·cases hg
   ·cases hg
  ·cases hc
 ·cases ho
theorem IZ {fi:FI} {B:Iw} {aY:List Nat} {E:GE} {T:En} {o:Oper} {K:TV->GH->Option β} (h:pK fi B aY E T) (ho:vq (bZ fi E) aY o=true) (hg:ja ek P sh sf (bZ fi E) H o K=some r):
  (∃ t v,K t H=some r/\GR B.Γ B.Pu B.I t v/\∀ I2,(∀ b,B.Pu b->I2.get b=B.I.get b)->aP P self (dF fi T) I2 o=some (.val v I2))/\km (bZ fi E) o=some ([],true):=by
 unfold vq at ho;split at ho
 ·rename_i t a hop
  simp only [zae] at ho;have h1:=py h ho.1;simp only [ja,hop] at hg;simp only [aP,hop,km];have hc:=ho.2;generalize dF fi T a=a' at h1;generalize bZ fi E a=ga at h1 hc hg ⊢;split at hc
  ·rename_i cs
   refine ⟨?_,rfl⟩;cases h1 with |oe hpu hget hle hr=>
   rw [Ir] at hg;unfold tv at hg;simp only at hg;split at hg
   ·rename_i x hx
    obtain ⟨v,hv,hrv⟩:=lU (P:=P) (t:=t) hget hle hr hx;refine ⟨_,_,hg,hrv,fun I2 hI=>?_⟩;refine Bc (I:=B.I) (J:=B.I) ?_ fun b hb=>?_
    ·simp only [dZ,hv]
    ·cases hb;exact hI _ hpu
   ·cases hg
  ·cases hc
 ·cases ho
theorem cY {n0 b:Nat}:∀ {l:List (Nat×bw)} {H:IH},b<n0->(ay n0 l H).get b=H.get b:=by
 intro l
 induction l with
 |nil=>intro H _;rfl
 |cons p r ih=>
  intro H hb;obtain ⟨i,o⟩:=p
  show ((ay n0 r H).put (n0+i) o).get b=_
  rw [IH.an,if_neg (by omega)];exact ih hb
theorem bX {n0:Nat}:∀ {l:List (Nat×bw)} {H:IH},(ay n0 l H).n=H.n:=by
 intro l
 induction l with
 |nil=>intro H;rfl
 |cons p r ih=>intro H;exact ih
structure TF (P:Program) (hint:Hint) (sh:cz) (me:Self) (fi:FI) (B:Iw) (R i:Nat) (Γ:bj) (Pu:Nat->Prop) (s:Td) (s':DS):Prop where
 dz:aE P hint sh Γ Pu s.H (ay B.I.n s'.bp s'.H)
 env:ER Γ Pu (ay B.I.n s'.bp s'.H) s.E s'.T
 bp:s'.bp.map (·.1)=s.pn
 sn:TQ P hint sh B Γ Pu s.H (ay B.I.n s'.bp s'.H) s.bG s'.bG
 rd:VN P hint sh me fi Γ Pu s.H (ay B.I.n s'.bp s'.H) s.reads s'.reads
 old:pK fi B s.aY s.E s'.T
 DZ:Ex (bT B.Γ B.H B.I) B.Γ B.Pu B.H B.I Γ Pu s.H (ay B.I.n s'.bp s'.H)
 free:∀ j,i<=j->j<R->(ay B.I.n s'.bp s'.H).get (B.I.n+j)=none
 room:B.I.n+R<=s'.H.n
 po:∀ j id,(j,id)∈s.po->∃ l,Γ id=some l/\l.pos=some (B.I.n+j,0)
theorem Tw {Γ Γ1:bj} {n0:Nat} {po:List (Nat×Nat)} (h:∀ j id,(j,id)∈po->∃ l,Γ id=some l/\l.pos=some (n0+j,0)) (hg:∀ id l,Γ id=some l->Γ1 id=some l):∀ j id,(j,id)∈po->∃ l,Γ1 id=some l/\l.pos=some (n0+j,0):=fun j id hm=>by
 obtain ⟨l,h1,h2⟩:=h j id hm;exact ⟨l,hg id l h1,h2⟩
theorem Ex.hi (hs:aE P hint sh Γ Pu H I) (h:Ex (bT Γ H I) Γ Pu H I Γ1 Pu1 H1 I1):Hi Γ Pu H I Γ1 Pu1 H1 I1:=Hi.of hs h fun b hb ho=>hs.sep b ho hb
theorem Al (hs:aE P hint sh Γ Pu H I) (h:Ex (bT Γ H I) Γ Pu H I Γ1 Pu1 H1 I1) {b:Nat} (hb:b<I.n) (hf:I.get b=none):I1.get b=none:=by
 rw [h.cQ b hb fun ho=>by obtain ⟨o,ho⟩:=hs.zd ho;rw [hf] at ho;cases ho];exact hf
theorem fS {n0 b:Nat}:∀ {l:List (Nat×bw)} {H:IH},(∀ x∈l,n0+x.1≠b)->(ay n0 l H).get b=H.get b:=by
 intro l
 induction l with
 |nil=>intro H _;rfl
 |cons p r ih=>
  intro H h;obtain ⟨i,o⟩:=p
  show ((ay n0 r H).put (n0+i) o).get b=_
  rw [IH.an,if_neg (fun e=>h _ List.mem_cons_self e.symm)];exact ih fun x hx=>h x (zao _ hx)
theorem nF {n0 b:Nat} {H H':IH} (h:H.get b=H'.get b):∀ {l:List (Nat×bw)},(ay n0 l H).get b=(ay n0 l H').get b:=by
 intro l
 induction l with
 |nil=>exact h
 |cons p r ih=>
  obtain ⟨i,o⟩:=p
  show ((ay n0 r H).put (n0+i) o).get b=((ay n0 r H').put (n0+i) o).get b
  rw [IH.an,IH.an,ih]
theorem kE {n0 b m:Nat} {H:IH}:∀ {l:List (Nat×bw)},(ay n0 (l.filter fun x=> !m.testBit x.1) (ay n0 (l.filter fun x=>m.testBit x.1) H)).get b=(ay n0 l H).get b:=by
 intro l
 induction l with
 |nil=>rfl
 |cons p r ih=>
  obtain ⟨i,o⟩:=p;have hr:(ay n0 ((i,o)::r) H).get b=if b=n0+i then some o else (ay n0 r H).get b:=by
   show ((ay n0 r H).put (n0+i) o).get b=_
   rw [IH.an]
  rw [hr];cases hq:m.testBit i with
  |true=>
   simp only [List.filter_cons,hq,zag,if_true,Bool.false_eq_true,if_false];by_cases hb:b=n0+i
   ·rw [if_pos hb,fS]
    ·show ((ay n0 _ H).put (n0+i) o).get b=_
     rw [IH.an,if_pos hb]
    ·intro x hx e
     have h2:=(List.mem_filter.1 hx).2;have:x.1=i:=by omega
     rw [this,hq] at h2;cases h2
   ·rw [if_neg hb,←ih]
    refine nF ?_
    show ((ay n0 _ H).put (n0+i) o).get b=_
    rw [IH.an,if_neg hb]
  |false=>
   simp only [List.filter_cons,hq,Bool.not_false,if_true,Bool.false_eq_true,if_false]
   show ((ay n0 _ _).put (n0+i) o).get b=_
   rw [IH.an];by_cases hb:b=n0+i
   ·rw [if_pos hb,if_pos hb]
   ·rw [if_neg hb,if_neg hb];exact ih
theorem JE {t:TypeId} {b off:Nat} {v:Value} (h:cE P I t (.pointer (some ⟨b,off,none⟩)) v=some (.skip I1)):
  (I1=I/\∀ I2,cE P I2 t (.pointer (some ⟨b,off,none⟩)) v=some (.skip I2))∨∃ ob,I1=I.put b ob/\∀ I2:IH,I2.get b=I.get b->cE P I2 t (.pointer (some ⟨b,off,none⟩)) v=some (.skip (I2.put b ob)):=by
 unfold cE at h;simp only at h;split at h
 ·rename_i J hJ
  cases h;unfold iH at hJ;split at hJ
  ·rename_i i hi
   split at hJ
   ·rename_i hsz
    unfold IH.dJ at hJ;split at hJ
    ·rename_i he
     cases hJ;exact .inl ⟨rfl,fun I2=>by simp only [cE,iH,hi,hsz,if_true,IH.dJ,he]⟩
    ·rename_i he
     split at hJ
     ·rename_i cs e fz ex sh hg
      split at hJ
      ·rename_i hc
       cases hJ;refine .inr ⟨_,rfl,fun I2 h2=>?_⟩;simp only [cE,iH,hi,hsz,if_true,IH.dJ,he,h2,hg];rw [if_pos hc];simp
      ·cases hJ
     ·cases hJ
   ·cases hJ
  ·cases hJ
 ·cases h
theorem aE.UF {I2:IH} (hs:aE P hint sh Γ Pu H I) (hg:∀ b,I2.get b=I.get b) (hn:I2.n=I.n):aE P hint sh Γ Pu H I2/\Ex (bT Γ H I) Γ Pu H I Γ Pu H I2:=by
 have hkeep:db Γ Pu I Γ Pu I2:=⟨fun _ _ h=>h,fun _ h=>h,fun b _=>hg b⟩;exact ⟨⟨fun id o ho=>by
   obtain ⟨l,hl,_⟩:=hs.obj id o ho;exact ⟨l,hl,hs.eB hkeep ho hl fun _ b _=>hg b⟩,hs.M0 (fun _ _ _ b _ _ _ _ _=>hg b),(fun b h=>hs.sep b (pq (fun _ _ _ b _ _ _ _ _=>hg b) h)),hs.bm,fun b hb=>(hg b).trans (hs.fresh b (hn▸hb)),fun b hb=>by
   obtain ⟨cs,et,fz,ex,sd,h⟩:=hs.pu b hb;exact ⟨cs,et,fz,ex,sd,(hg b).trans h⟩,hn▸hs.ro,hs.gn,hs.cB,hs.st,hs.qQ hkeep.p hkeep.i⟩,
  ⟨fun _ _ x=>x,zam _,Nat.le_of_eq hn.symm,fun _ x=>x,fun b _ _=>hg b,fun _ _ x=>pq (fun _ _ _ b _ _ _ _ _=>hg b) x,fun _ _ x=> .inl x,zam _,fun _ _=> .inr (.inl rfl),fun _ _ b _ _ _ _ _ _=>hg b⟩⟩
theorem Kx:∀ {l:List Nat} {H:GH},(uq l H).n=H.n/\(uq l H).ck=H.ck:=by
 intro l
 induction l with
 |nil=>intro H;exact ⟨rfl,rfl⟩
 |cons a r ih=>intro H;exact ih (H:=H.del a)
theorem uu {l:List Nat}:∀ {H:GH} {k:Nat},(uq l H).br k=if k∈l then none else H.br k:=by
 induction l with
 |nil=>intro H k;simp [uq]
 |cons a r ih=>
  intro H k
  show (uq r (H.del a)).br k=_
  rw [ih,GH.ik];by_cases h1:k∈r<;>by_cases h2:k=a<;>simp [h1,h2]
theorem Be {po:List (Nat×Nat)} {js:List Nat} (h:Ie H po js=true):∀ j∈js,∃ id kt gk ge k e xs em,(j,id)∈po/\id∈jh po js/\H.get id=some (.map kt gk ge k e xs em):=by
 have key:∀ js:List Nat,∀ j∈js,∀ p,po.find? (fun p=>Nat.beq p.1 j)=some p->p.2∈jh po js:=by
  intro js
  induction js with
  |nil=>intro j hj;cases hj
  |cons a r ih=>
   intro j hj p hp;unfold jh;rcases List.mem_cons.1 hj with rfl |hj
   ·rw [hp];exact List.mem_cons_self
   ·split
    ·exact zao _ (ih j hj p hp)
    ·exact ih j hj p hp
 intro j hj;have h1:=List.all_eq_true.1 h j hj;split at h1
 ·rename_i p hp
  have h2:=List.mem_of_find?_eq_some hp;have h3:p.1=j:=beq_true (by have:=List.find?_some hp;simpa using this);unfold QQ at h1;split at h1
  ·rename_i kt gk ge k e xs em hg
   exact ⟨p.2,kt,gk,ge,k,e,xs,em,by rw [←h3];exact h2,key js j hj p hp,hg⟩
  ·cases h1
 ·cases h1
theorem CS (ok:fL P hint sh sf self) {fi:FI} {B:Iw} (hsB:aE P hint sh B.Γ B.Pu B.H B.I) {ops:Array Oper} {R i m:Nat} {o:Oper} (hR:kindOf P o= .fresh->i<R) {s:Td} {s':DS} {K:Td->Option β} (h:sH ek P sh sf fi ops i o m s K=some r) (hi:TF P hint sh self fi B R i Γ Pu s s'):
  ∃ s1 s1' Γ1 Pu1,K s1=some r/\dE P self fi ops B.I.n i o m s'= .done s1'/\TF P hint sh self fi B R (i+1) Γ1 Pu1 s1 s1':=by
 unfold sH at h;unfold dE;have kB:=hi.DZ.de hsB;have hfree:∀ j,i+1<=j->j<R->(ay B.I.n s'.bp s'.H).get (B.I.n+j)=none:=fun j h1 h2=>hi.free j (by omega) h2
 rcases so h hi.env with ⟨hw,E2,h,he2,hG⟩ |⟨hw,E2,h,he2,hG⟩
 ·have hold:=hi.old.guard hG
  simp only [hw];split at h
  ·rename_i hk
   simp only [hk];cases hos:vv (bZ fi E2) s.aY o with
   |true=>
    rw [hos] at h;simp only [zac] at h;obtain ⟨t,v,k1,k2,e⟩:=IJ (self:=self) hold he2 hi.dz hos h;obtain ⟨v',hv',hall⟩:=pV hk _ _ e;cases hv';simp only at hall;simp only [hall s'.H];exact ⟨_,_,Γ,Pu,k1,rfl,⟨hi.dz,he2.put fi o.dst (k2.mono kB),hi.bp,hi.sn,hi.rd,hold.put k2,hi.DZ,hfree,hi.room,hi.po⟩⟩
   |false=>
    rw [hos] at h;simp only [zab] at h;obtain ⟨t,H1,Γ1,Pu1,v,I1,k1,k2,k3,k4,k5⟩:=rq hi.dz ok (cb hi.dz he2) h;rcases gY k2 with e |⟨e,rfl⟩
    ·obtain ⟨v',hv',hall⟩:=pV hk _ _ e
     cases hv';simp only at hall;simp only [hall s'.H];have hh:=k5.hi hi.dz;exact ⟨_,_,Γ1,Pu1,k1,rfl,⟨k4,(he2.mono (k5.de hi.dz)).put fi o.dst k3,hi.bp,hi.sn.step hh,hi.rd.step hh,hold.aY k3,Ex.trans hsB hi.dz hi.DZ k5,hfree,hi.room,Tw hi.po k5.g⟩⟩
    ·obtain ⟨v',hv',_⟩:=pV hk _ _ e
     cases hv'
  ·rename_i hk
   simp only [hk];cases hos:vq (bZ fi E2) s.aY o with
   |true=>
    rw [hos] at h;simp only [zac] at h;obtain ⟨⟨t,v,k1,k2,e⟩,ht⟩:=IZ (self:=self) hold hos h;replace k1:=ae k1;obtain ⟨hsm,k1⟩:=k1;have hsv:=Hg hsm k2;have e1:=e s'.H fun b hb=>by rw [←cY (l:=s'.bp) (hsB.mq hb)];exact kB.i b hb
    have e2:=e (ay B.I.n s'.bp s'.H) fun b hb=>kB.i b hb
    simp only [e1,ED (self:=self) e hsv hi.sn,if_true]
    exact ⟨_,_,Γ,Pu,k1,rfl,⟨hi.dz,he2.put fi o.dst (k2.mono kB),hi.bp,hi.sn,
     ⟨⟨rfl,Γ,Pu,s.H,_,E2,true,hi.dz,.refl,he2,hk,ht,rfl,e2,hsv⟩,hi.rd⟩,hold.put k2,hi.DZ,hfree,hi.room,hi.po⟩⟩
   |false=>
    rw [hos] at h;simp only [zab] at h;split at h
    ·rename_i ids p ht
     replace h:=ae h;obtain ⟨hc,h⟩:=h;simp only [zae] at hc;obtain ⟨hpn,hc⟩:=hc;obtain ⟨t,H1,Γ1,Pu1,v,I1,k1,k2,k3,k4,k5⟩:=rq hi.dz ok (cb hi.dz he2) h;replace k1:=ae k1;obtain ⟨hsm,k1⟩:=k1;rcases gY k2 with e |⟨e,rfl⟩
     ·have hI:=BV hk _ _ _ e
      subst hI;have hsv:=Hg hsm k3;have e1:aP P self (dF fi s'.T) s'.H o=some (.val v s'.H):=by
       rcases Bool.or_eq_true_iff.1 hpn with hq |hq
       ·have hp0:s'.bp= []:=by
         have:=hi.bp;rw [List.isEmpty_iff.1 hq] at this;exact List.map_eq_nil_iff.1 this
        rw [hp0] at e;exact e
       ·simp only [zae,Bool.not_eq_true'] at hq
        obtain ⟨hq1,hq2⟩:=hq;have:=List.isEmpty_iff.1 hq1;subst this;exact CZ (self:=self) hk ht (cb hi.dz he2) e (fun id hid=>by cases hid) (fun hp'=>by rw [hq2] at hp';cases hp')
      simp only [e1,I3 (self:=self) hk hi.dz he2 ht e hsv hi.sn hc,if_true];have hh:=k5.hi hi.dz
      exact ⟨_,_,Γ1,Pu1,k1,rfl,⟨k4,(he2.mono (k5.de hi.dz)).put fi o.dst k3,hi.bp,hi.sn.step hh,
       ⟨⟨rfl,Γ,Pu,s.H,_,E2,p,hi.dz,hh,he2,hk,ht,rfl,e,hsv⟩,hi.rd.step hh⟩,hold.aY k3,Ex.trans hsB hi.dz hi.DZ k5,hfree,hi.room,Tw hi.po k5.g⟩⟩
     ·exact absurd e (Fh hk)
    ·cases h
  ·rename_i hk
   have hiR:=hR hk;split at h
   ·rename_i t len ps hop
    simp only [ja,hop] at h;have hk0:=hi.free i (zam _) hiR;have hroN:dA<=B.I.n+i:=Nat.le_trans hsB.ro (Nat.le_add_right _ _);obtain ⟨q,H1,Γ1,Pu1,v,ob,k1,k2,k3,k4,k5⟩:=va hi.dz hk0 (by rw [bX];have:=hi.room;omega) hroN h (HL.map (cb hi.dz he2) _);have e1:aP P self (dF fi s'.T) { s'.H with n:=B.I.n+i } o=some (.val v (({ s'.H with n:=B.I.n+i }:IH).new ob)):=by
     simp only [aP,hop];exact k2 _ rfl
    have e2:(({ s'.H with n:=B.I.n+i }:IH).new ob).get (B.I.n+i)=some ob:=by rw [IH.aG];exact if_pos rfl
    simp only [hk,e1,e2];have hh:=Hi.of hi.dz k5 fun b hb ho=>by
     rcases ho with ho |rfl
     ·exact hi.dz.sep b ho hb
     ·obtain ⟨cs,et,fz,ex,sd,hg⟩:=hi.dz.pu _ hb
      rw [hk0] at hg;cases hg
    refine ⟨_,_,Γ1,Pu1,k1,rfl,⟨k4,(he2.mono hh.de).put fi o.dst k3,?_,hi.sn.step hh,hi.rd.step hh,hold.aY k3,Ex.nT hsB hi.DZ k5 (fun b hb ho=>?_),fun j h1 h2=>?_,hi.room,Tw hi.po k5.g⟩⟩
    ·simp only [List.map_cons,hi.bp]
    ·rcases ho with ho |rfl
     ·exact hi.DZ.own b hb ho
     ·omega
    ·show ((ay B.I.n s'.bp s'.H).put (B.I.n+i) ob).get (B.I.n+j)=none
     rw [IH.an,if_neg (by omega)];exact hfree j h1 h2
   ·rename_i et hop
    simp only [ja,hop] at h;have hk0:=hi.free i (zam _) hiR;have hroN:dA<=B.I.n+i:=Nat.le_trans hsB.ro (Nat.le_add_right _ _);obtain ⟨q,H1,Γ1,Pu1,v,ob,k1,k2,k3,k4,k5⟩:=L6 hi.dz hk0 (by rw [bX];have:=hi.room;omega) hroN h;have e1:aP P self (dF fi s'.T) { s'.H with n:=B.I.n+i } o=some (.val v (({ s'.H with n:=B.I.n+i }:IH).new ob)):=by
     simp only [aP,hop];exact k2 _ rfl
    have e2:(({ s'.H with n:=B.I.n+i }:IH).new ob).get (B.I.n+i)=some ob:=by rw [IH.aG];exact if_pos rfl
    simp only [hk,e1,e2];have hh:=Hi.of hi.dz k5 fun b hb ho=>by
     rcases ho with ho |rfl
     ·exact hi.dz.sep b ho hb
     ·obtain ⟨cs,et,fz,ex,sd,hg⟩:=hi.dz.pu _ hb
      rw [hk0] at hg;cases hg
    refine ⟨_,_,Γ1,Pu1,k1,rfl,⟨k4,(he2.mono hh.de).put fi o.dst k3,?_,hi.sn.step hh,hi.rd.step hh,hold.aY k3,Ex.nT hsB hi.DZ k5 (fun b hb ho=>?_),fun j h1 h2=>?_,hi.room,Tw hi.po k5.g⟩⟩
    ·simp only [List.map_cons,hi.bp]
    ·rcases ho with ho |rfl
     ·exact hi.DZ.own b hb ho
     ·omega
    ·show ((ay B.I.n s'.bp s'.H).put (B.I.n+i) ob).get (B.I.n+j)=none
     rw [IH.an,if_neg (by omega)];exact hfree j h1 h2
   ·rename_i t lo co hop
    simp only [ja,hop] at h;have hk0:=hi.free i (zam _) hiR;have hroN:dA<=B.I.n+i:=Nat.le_trans hsB.ro (Nat.le_add_right _ _);obtain ⟨q,H1,Γ1,Pu1,v,ob,k1,k2,k3,k4,k5⟩:=wQ hi.dz hk0 (by rw [bX];have:=hi.room;omega) hroN h (cb hi.dz he2 _) (cb hi.dz he2 _) (fun he=>by
   rename_i t l c;unfold Cc at he;split at he
   ·rw [beq_true he]
   ·cases he)
    have e1:aP P self (dF fi s'.T) { s'.H with n:=B.I.n+i } o=some (.val v (({ s'.H with n:=B.I.n+i }:IH).new ob)):=by
     simp only [aP,hop];exact k2 _ rfl
    have e2:(({ s'.H with n:=B.I.n+i }:IH).new ob).get (B.I.n+i)=some ob:=by rw [IH.aG];exact if_pos rfl
    simp only [hk,e1,e2];have hh:=Hi.of hi.dz k5 fun b hb ho=>by
     rcases ho with ho |rfl
     ·exact hi.dz.sep b ho hb
     ·obtain ⟨cs,et,fz,ex,sd,hg⟩:=hi.dz.pu _ hb
      rw [hk0] at hg;cases hg
    refine ⟨_,_,Γ1,Pu1,k1,rfl,⟨k4,(he2.mono hh.de).put fi o.dst k3,?_,hi.sn.step hh,hi.rd.step hh,hold.aY k3,Ex.nT hsB hi.DZ k5 (fun b hb ho=>?_),fun j h1 h2=>?_,hi.room,Tw hi.po k5.g⟩⟩
    ·simp only [List.map_cons,hi.bp]
    ·rcases ho with ho |rfl
     ·exact hi.DZ.own b hb ho
     ·omega
    ·show ((ay B.I.n s'.bp s'.H).put (B.I.n+i) ob).get (B.I.n+j)=none
     rw [IH.an,if_neg (by omega)];exact hfree j h1 h2
   ·rename_i t n hop
    simp only [ja,hop] at h;have hk0:=hi.free i (zam _) hiR;have hroN:dA<=B.I.n+i:=Nat.le_trans hsB.ro (Nat.le_add_right _ _);obtain ⟨q,H1,Γ1,Pu1,v,ob,k1,k2,k3,k4,k5,k6⟩:=Dj hi.dz hk0 (by rw [bX];have:=hi.room;omega) hroN h (dO.map (cb hi.dz he2) _);have e1:aP P self (dF fi s'.T) { s'.H with n:=B.I.n+i } o=some (.val v (({ s'.H with n:=B.I.n+i }:IH).new ob)):=by
     simp only [aP,hop];exact k2 _ rfl
    have e2:(({ s'.H with n:=B.I.n+i }:IH).new ob).get (B.I.n+i)=some ob:=by rw [IH.aG];exact if_pos rfl
    simp only [hk,e1,e2];have hh:=Hi.of hi.dz k5 fun b hb ho=>by
     rcases ho with ho |rfl
     ·exact hi.dz.sep b ho hb
     ·obtain ⟨cs,et,fz,ex,sd,hg⟩:=hi.dz.pu _ hb
      rw [hk0] at hg;cases hg
    refine ⟨_,_,Γ1,Pu1,k1,rfl,⟨k4,(he2.mono hh.de).put fi o.dst k3,?_,hi.sn.step hh,hi.rd.step hh,hold.aY k3,Ex.nT hsB hi.DZ k5 (fun b hb ho=>?_),fun j h1 h2=>?_,hi.room,fun j id hm=>?_⟩⟩
    ·simp only [List.map_cons,hi.bp]
    ·rcases ho with ho |rfl
     ·exact hi.DZ.own b hb ho
     ·omega
    ·show ((ay B.I.n s'.bp s'.H).put (B.I.n+i) ob).get (B.I.n+j)=none
     rw [IH.an,if_neg (by omega)];exact hfree j h1 h2
    ·rcases List.mem_cons.1 hm with hm |hm
     ·cases hm;exact k6
     ·exact Tw hi.po k5.g j id hm
   ·cases h
  ·rename_i hk
   replace h:=ae h;obtain ⟨hc,h⟩:=h;cases hall:s.pn.all (fun j=>m.testBit j) with
   |true=>
    rw [hall] at h;simp only [zac] at h;obtain ⟨t,H1,Γ1,Pu1,v,I1,k1,k2,k3,k4,k5⟩:=rq hi.dz ok (cb hi.dz he2) h;replace k1:=ae k1;obtain ⟨hr,k1⟩:=k1;have hmem:∀ x∈s'.bp,m.testBit x.1=true:=fun x hx=>List.all_eq_true.1 hall x.1 (by rw [←hi.bp];exact List.mem_map.2 ⟨x,hx,rfl⟩)
    have f1:(s'.bp.filter fun x=>m.testBit x.1)=s'.bp:=List.filter_eq_self.2 hmem;have f2:(s'.bp.filter fun x=> !m.testBit x.1)= []:=List.filter_eq_nil_iff.2 fun x hx=>by rw [hmem x hx];exact Bool.false_ne_true
    simp only [hk,yM hi.sn hc,if_true,f1,f2];have hh:=k5.hi hi.dz;have hrd:=hi.rd.step hh;have hr':=wP hrd hr;have hB1:∀ b,B.Pu b->s'.H.get b=B.I.get b:=fun b hb=>by rw [←cY (l:=s'.bp) (hsB.mq hb)];exact kB.i b hb
    have hpo:T5 P hint sh (bif s.pn.isEmpty then some s.H else none) s'.H Γ1 Pu1 H1 I1:=by
     cases hq:s.pn.isEmpty with
     |false=>trivial
     |true=>
      have hp0:s'.bp= []:=by
       have:=hi.bp;rw [List.isEmpty_iff.1 hq] at this;exact List.map_eq_nil_iff.1 this
      have hsim:=hi.dz;rw [hp0] at hsim hh;exact ⟨Γ,Pu,hsim,hh⟩
    have hroom:B.I.n+R<=I1.n:=Nat.le_trans (by rw [bX];exact hi.room) k5.n;have hf1:∀ j,i+1<=j->j<R->I1.get (B.I.n+j)=none:=fun j h1 h2=>Al hi.dz k5 (by rw [bX];have:=hi.room;omega) (hfree j h1 h2)
    rcases gY k2 with e |⟨e,rfl⟩
    ·simp only [e,hr',if_true]
     exact ⟨_,_,Γ1,Pu1,k1,rfl,⟨k4,(he2.mono (k5.de hi.dz)).put fi o.dst k3,rfl,⟨⟨rfl,hB1,hpo⟩,hi.sn.step hh⟩,hrd,hold.aY k3,Ex.trans hsB hi.dz hi.DZ k5,hf1,hroom,Tw hi.po k5.g⟩⟩
    ·simp only [e,hr',if_true]
     exact ⟨_,_,Γ1,Pu1,k1,rfl,⟨k4,(he2.mono (k5.de hi.dz)).put fi o.dst k3,rfl,⟨⟨rfl,hB1,hpo⟩,hi.sn.step hh⟩,hrd,hold.aY k3,Ex.trans hsB hi.dz hi.DZ k5,hf1,hroom,Tw hi.po k5.g⟩⟩
   |false=>
    rw [hall] at h;simp only [zab] at h;replace h:=ae h;obtain ⟨hlate,h⟩:=h;unfold P6 at hlate;split at hlate
    ·rename_i t a w hop
     split at hlate
     ·rename_i id off ha
      split at hlate
      ·rename_i cet ccs hg
       obtain ⟨t',H1,Γ1,Pu1,v',I1,k1,k2,k3,k4,k5⟩:=rq hi.dz ok (cb hi.dz he2) h;replace k1:=ae k1;obtain ⟨hr,k1⟩:=k1;replace hr:=ai hr;obtain ⟨hl1,hr⟩:=hr;have hra:=cb (fi:=fi) hi.dz he2 a;rw [ha] at hra;have hra':∃ b l,Γ id=some l/\l.pos=some (b,0)/\dF fi s'.T a= .pointer (some ⟨b,off,none⟩):=by
        generalize dF fi s'.T a=q at hra;cases hra with |ptr x y=>exact ⟨_,_,x,y,rfl⟩
       obtain ⟨b,l,hl,hp,hae⟩:=hra';simp only [aP,hop,hae] at k2;have hnb:∀ x∈s'.bp.filter (fun x=> !m.testBit x.1),B.I.n+x.1≠b:=fun x hx e=>by
        have hx':x.1∈s.pn.filter (fun j=> !m.testBit j):=List.mem_filter.2 ⟨by rw [←hi.bp];exact List.mem_map.2 ⟨x,(List.mem_filter.1 hx).1,rfl⟩,(List.mem_filter.1 hx).2⟩;obtain ⟨id2,kt,gk,ge,k,e2,xs,em,q1,_,q3⟩:=Be hlate _ hx';obtain ⟨l2,q4,q5⟩:=hi.po _ _ q1;have:=hi.dz.VV id id2 _ _ l l2 b 0 0 hg q3 rfl rfl hl q4 hp (by rw [q5,e]);rw [this,q3] at hg;cases hg
       have hev:aA (cE P (ay B.I.n s'.bp s'.H) t (.pointer (some ⟨b,off,none⟩)) (dF fi s'.T w))=some (v',I1)->cE P (ay B.I.n s'.bp s'.H) t (.pointer (some ⟨b,off,none⟩)) (dF fi s'.T w)=some (.skip I1)/\v'=Go.undef:=fun q=>by
        rcases gY q with e |e
        ·unfold cE at e
         simp only at e;split at e<;>cases e
        ·exact e
       obtain ⟨e,rfl⟩:=hev k2;have hIa:(ay B.I.n (s'.bp.filter fun x=>m.testBit x.1) s'.H).get b=(ay B.I.n s'.bp s'.H).get b:=(fS hnb).symm.trans kE;obtain ⟨Ia1,e1,hG,hnA⟩:∃ Ia1,cE P (ay B.I.n (s'.bp.filter fun x=>m.testBit x.1) s'.H) t (.pointer (some ⟨b,off,none⟩)) (dF fi s'.T w)=some (.skip Ia1)/\(∀ x,(ay B.I.n (s'.bp.filter fun x=> !m.testBit x.1) Ia1).get x=I1.get x)/\Ia1.n=I1.n:=by
        rcases JE e with ⟨rfl,hall⟩ |⟨ob,rfl,hall⟩
        ·exact ⟨_,hall _,fun x=>kE,by rw [bX,bX]⟩
        ·refine ⟨_,hall _ hIa,fun x=>?_,by simp only [IH.TS,bX]⟩
         by_cases hx:x=b
         ·subst hx
          rw [fS hnb,IH.an,IH.an,if_pos rfl,if_pos rfl]
         ·rw [IH.an (ay B.I.n s'.bp s'.H),if_neg hx]
          exact (nF (by rw [IH.an,if_neg hx])).trans kE
       have e1':aP P self (dF fi s'.T) (ay B.I.n (s'.bp.filter fun x=>m.testBit x.1) s'.H) o=some (.skip Ia1):=by
        simp only [aP,hop,hae];exact e1
       have hn2:(ay B.I.n (s'.bp.filter fun x=> !m.testBit x.1) Ia1).n=I1.n:=by rw [bX];exact hnA
       obtain ⟨s2,x2⟩:=k4.UF hG hn2;have hh:=k5.hi hi.dz;have hh2:=x2.hi k4;have hrd:=hi.rd.step hh;have hpo1:=Tw hi.po k5.g;have late:∀ x∈s'.bp.filter (fun x=> !m.testBit x.1),∃ id2 l2,id2∈jh s.po (s.pn.filter fun j=> !m.testBit j)/\(∃ o2,H1.get id2=some o2/\o2.dw=true)/\Γ1 id2=some l2/\l2.pos=some (B.I.n+x.1,0):=fun x hx=>by
        have hx':x.1∈s.pn.filter (fun j=> !m.testBit j):=List.mem_filter.2 ⟨by rw [←hi.bp];exact List.mem_map.2 ⟨x,(List.mem_filter.1 hx).1,rfl⟩,(List.mem_filter.1 hx).2⟩;obtain ⟨id2,kt,gk,ge,k,e2,xs,em,q1,q2,q3⟩:=Be hl1 _ hx';obtain ⟨l2,q4,q5⟩:=hpo1 _ _ q1;exact ⟨id2,l2,q2,⟨_,q3,rfl⟩,q4,q5⟩
       have hiD:Hi Γ1 Pu1 H1 I1 Γ1 Pu1 (uq (jh s.po (s.pn.filter fun j=> !m.testBit j)) H1) Ia1:=by
        have same:∀ b,(∀ x∈s'.bp.filter (fun x=> !m.testBit x.1),B.I.n+x.1≠b)->Ia1.get b=I1.get b:=fun b hb=>by rw [←hG b,fS hb]
        refine ⟨fun _ _ h=>h,fun _ h=>h,fun b hb=>same b fun x hx e=>?_,Nat.le_of_eq Kx.1.symm,Nat.le_of_eq Kx.2.symm,fun id _=>?_,fun id l b x s0 h1 h2 h3 h4=>same b fun y hy e=>?_⟩
        ·obtain ⟨id2,l2,q1,⟨o2,q2,q3⟩,q4,q5⟩:=late x hx
         exact k4.sep b (.pos q2 q3 q4 (by rw [q5,e])) hb
        ·rw [uu]
         split
         ·exact .inl rfl
         ·exact .inr (.inl rfl)
        ·obtain ⟨id2,l2,q1,⟨o2,q2,q3⟩,q4,q5⟩:=late y hy
         obtain ⟨oo,h5⟩:=GH.ig h1;obtain ⟨l',h6,h7⟩:=k4.obj id oo h5;cases h3.symm.trans h6;cases hm:oo.dw with
         |true=>
          have:=k4.VV id id2 _ _ l l2 b x 0 h5 q2 hm q3 h3 q4 h4 (by rw [q5,e]);rw [uu,if_pos (this▸q1)] at h2;cases h2
         |false=>exact k4.sep b (.pos q2 q3 q4 (by rw [q5,e])) (h7.rest hm (.inl ⟨x,h4⟩))
       have hr':=wP (hrd.step hiD) hr;have hB1:∀ b,B.Pu b->s'.H.get b=B.I.get b:=fun b hb=>by rw [←cY (l:=s'.bp) (hsB.mq hb)];exact kB.i b hb
       have hf1:∀ j,i+1<=j->j<R->I1.get (B.I.n+j)=none:=fun j h1 h2=>Al hi.dz k5 (by rw [bX];have:=hi.room;omega) (hfree j h1 h2)
       have hroom:B.I.n+R<=Ia1.n:=by rw [hnA];exact Nat.le_trans (by rw [bX];exact hi.room) k5.n
       have hH:=Hi.trans hi.dz hh hh2;simp only [hk,yM hi.sn hc,if_true,e1',hr'];refine ⟨_,_,Γ1,Pu1,k1,rfl,⟨s2,((he2.mono (k5.de hi.dz)).put fi o.dst k3).mono hh2.de,?_,⟨⟨rfl,hB1,trivial⟩,hi.sn.step hH⟩,hi.rd.step hH,hold.aY k3,Ex.trans hsB k4 (Ex.trans hsB hi.dz hi.DZ k5) x2,fun j h1 h2=>(hG _).trans (hf1 j h1 h2),hroom,hpo1⟩⟩;rw [←hi.bp,List.filter_map];rfl
      ·cases hlate
     ·cases hlate
    ·cases hlate
 ·simp only [hw]
  exact ⟨_,_,Γ,Pu,h,rfl,⟨hi.dz,he2.put fi o.dst (.raw Go.undef),hi.bp,hi.sn,hi.rd,(hi.old.guard hG).put (.raw Go.undef),hi.DZ,hfree,hi.room,hi.po⟩⟩
theorem GJ (ok:fL P hint sh sf self) {fi:FI} {B:Iw} (hsB:aE P hint sh B.Γ B.Pu B.H B.I) {ops:Array Oper} {R:Nat}:∀ {l:List Oper} {i:Nat} {ms:List Nat} {s:Td} {s':DS} {Γ:bj} {Pu:Nat->Prop} {K:Td->Option β},(∀ o∈l,kindOf P o= .fresh->i+l.length<=R)->qY ek P sh sf fi ops l i ms s K=some r->TF P hint sh self fi B R i Γ Pu s s'->
  ∃ s1 s1' Γ1 Pu1 i1,K s1=some r/\bq P self fi ops B.I.n l i ms s' none= .done s1'/\TF P hint sh self fi B R i1 Γ1 Pu1 s1 s1':=by
 intro l
 induction l with
 |nil=>intro i ms s s' Γ Pu K _ h hi;exact ⟨s,s',Γ,Pu,i,h,by cases ms<;>rfl,hi⟩
 |cons o rest ih=>
  intro i ms s s' Γ Pu K hl h hi;cases ms with
  |nil=>cases h
  |cons m ms=>
   simp only [qY] at h;obtain ⟨s1,s1',Γ1,Pu1,k1,k2,k3⟩:=CS ok hsB (fun hk=>by have:=hl o (List.mem_cons_self ..) hk;simp at this;omega) h hi;obtain ⟨s2,s2',Γ2,Pu2,i2,j1,j2,j3⟩:=ih (fun o' ho' hk=>by have:=hl o' (zao _ ho') hk;simp at this;omega) k1 k3;refine ⟨s2,s2',Γ2,Pu2,i2,j1,?_,j3⟩;simp only [bq,k2];exact j2
theorem NO (ok:fL P hint sh sf self) {fi:FI} {ops:Array Oper} {E:GE} {E':En} {D:List Deferred} {K:GE->GH->Option β} (h:Py ek P sh sf fi ops E H K=some r) (hs:aE P hint sh Γ Pu H I) (he:ER Γ Pu I E E'):
  ∃ E1 H1 Γ1 Pu1 E1' I1,K E1 H1=some r/\nS P self fi ops E' I D=some (.normal,E1',I1,D)/\ER Γ1 Pu1 I1 E1 E1'/\aE P hint sh Γ1 Pu1 H1 I1/\Ex (bT Γ H I) Γ Pu H I Γ1 Pu1 H1 I1:=by
 unfold Py at h;replace h:=ae h;obtain ⟨hc,h⟩:=h;have hold:pK fi ⟨Γ,Pu,H,I⟩ [] E E':=fun t _=>by
  unfold fa eZ;cases cls fi t with
  |out=>exact .undef _
  |loc=>exact (he t).1
  |tmp=>exact (he t).2
 have hget:∀ b,({ I with n:=I.n+fI P ops }:IH).get b=I.get b:=fun b=>rfl
 have hkeep:db Γ Pu I Γ Pu { I with n:=I.n+fI P ops }:=⟨fun _ _ h=>h,fun _ h=>h,fun _ _=>rfl⟩;have hs1:aE P hint sh Γ Pu H { I with n:=I.n+fI P ops }:=⟨fun id o ho=>by
   obtain ⟨l,hl,_⟩:=hs.obj id o ho;exact ⟨l,hl,hs.eB hkeep ho hl fun _ _ _=>rfl⟩,hs.M0 (fun _ _ _ _ _ _ _ _ _=>rfl),(fun b h=>hs.sep b (pq (fun _ _ _ _ _ _ _ _ _=>rfl) h)),hs.bm,fun b hb=>hs.fresh b (Nat.le_trans (Nat.le_add_right _ _) hb),hs.pu,Nat.le_trans hs.ro (Nat.le_add_right _ _),hs.gn,hs.cB,hs.st,hs.qQ hkeep.p hkeep.i⟩
 have hb1:Ex (bT Γ H I) Γ Pu H I Γ Pu H { I with n:=I.n+fI P ops }:=⟨fun _ _ x=>x,zam _,Nat.le_add_right _ _,fun _ x=>x,fun _ _ _=>rfl,fun _ _ x=>pq (fun _ _ _ _ _ _ _ _ _=>rfl) x,fun _ _ x=> .inl x,zam _,fun _ _=> .inr (.inl rfl),fun _ _ _ _ _ _ _ _ _=>rfl⟩;have hres:∀ o∈ops.toList,kindOf P o= .fresh->0+ops.toList.length<=fI P ops:=fun o ho hk=>by
  unfold fI;rw [if_pos (List.any_eq_true.2 ⟨o,ho,decide_eq_true hk⟩)];simp
 obtain ⟨s1,s1',Γ1,Pu1,i1,k1,k2,k3⟩:=GJ ok (B:=⟨Γ,Pu,H,I⟩) hs (R:=fI P ops) hres h (s':=⟨E',{ I with n:=I.n+fI P ops },[],[],[]⟩)
  ⟨hs1,he.mono hkeep,rfl,trivial,trivial,hold,hb1,fun j _ _=>hs.fresh _ (Nat.le_add_right _ _),zam _,fun j id hm=>by cases hm⟩
 refine ⟨s1.E,s1.H,Γ1,Pu1,s1'.T,ay I.n s1'.bp s1'.H,k1,?_,k3.env,k3.dz,k3.DZ⟩;simp only [nS,hc,if_true,k2]
end
end Go.Gv
