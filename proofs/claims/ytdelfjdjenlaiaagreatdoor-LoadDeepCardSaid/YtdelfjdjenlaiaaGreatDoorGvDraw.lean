/- The pure evaluator's regions are the ideal one's. -/
import Derived.Test.YtdelfjdjenlaiaaGreatDoorGvFresh
set_option linter.unusedSimpArgs false
set_option linter.unusedVariables false
namespace Go.Gv
open Go Go.Iv
section
variable {β:Type} {P:Program} {hint:Hint} {O:Nat->Prop} {Γ Γ1:bc} {Pu Pu1:Nat->Prop} {H H1:GH} {I I1 I2:IH} {r:β} {sf:eF β} {self:Self} {sh:cA}
def Ye (fi:FI) (E:GE) (E':En) (E2:GE):Prop:=E2=E∨∃ d c,E2=dc fi d (.bool c) E/\fw fi E' d= .bool c
theorem dw {fi:FI} {k:Nat} {x:Option β} (h:nU fi k x=some r):x=some r:=by
 unfold nU at h;cases hm:ou fi.st k with
 |true=>rw [hm] at h;cases h
 |false=>rw [hm] at h;exact h
theorem rZ {fi:FI} {ops:Array Oper} {o:Oper} {E:GE} {E':En} {run skip:GE->Option β} (h:kE dW fi ops o E run skip=some r) (he:ER Γ Pu I E E'):
  (bG fi ops E' o=some true/\∃ E2,run E2=some r/\ER Γ Pu I E2 E'/\Ye fi E E' E2)∨(bG fi ops E' o=some false/\∃ E2,skip E2=some r/\ER Γ Pu I E2 E'/\Ye fi E E' E2):=by
 unfold kE at h;unfold bG;split at h
 ·rename_i hg
  simp only [hg];exact .inl ⟨by first |rfl |trivial,E,h,he,.inl rfl⟩
 ·rename_i j want hg
  simp only [hg];split at h
  ·rename_i d hd
   simp only [hd];have hv:GR Γ Pu I (fx fi E d) (fw fi E' d):=by
    unfold fx fw;cases cls fi d with
    |out=>exact .undef _
    |loc=>exact (he d).1
    |tmp=>exact (he d).2
   split at h
   ·rename_i b hb
    rw [hb] at hv;have hE2:∀ c,b=c->ER Γ Pu I (dc fi d (.bool c) E) E':=fun c hc=>he.Fa d fi (by subst hc;exact hv)
    have hG:∀ c,fw fi E' d= .bool c->Ye fi E E' (dc fi d (.bool c) E):=fun c hc=> .inr ⟨d,c,rfl,hc⟩
    generalize fw fi E' d=v at hv hG;cases hv;rcases iL h with ⟨rfl,h⟩ |⟨rfl,h⟩
    ·cases want
     ·exact .inr ⟨rfl,_,dw h,hE2 true rfl,hG true rfl⟩
     ·exact .inl ⟨rfl,_,dw h,hE2 true rfl,hG true rfl⟩
    ·cases want
     ·exact .inl ⟨rfl,_,dw h,hE2 false rfl,hG false rfl⟩
     ·exact .inr ⟨rfl,_,dw h,hE2 false rfl,hG false rfl⟩
   ·rename_i v hb
    rw [hb] at hv;generalize fw fi E' d=v' at hv;cases hv;split at h
    ·cases h
    ·cases h
    ·rename_i h1 h2
     refine .inr ⟨?_,E,h,he,.inl rfl⟩;split
     ·exact absurd rfl (h1 _)
     ·exact absurd rfl (h2 _)
     ·rfl
   ·cases h
  ·cases h
theorem im {o:Option ag} {v:Value} {J:IH} (h:aq o=some (v,J)):o=some (.val v J)∨(o=some (.skip J)/\v=Go.undef):=by
 unfold aq at h;split at h
 ·cases h;exact .inl rfl
 ·cases h;exact .inr ⟨rfl,rfl⟩
 ·cases h
def FT (P:Program) (hint:Hint) (sh:cA) (K:GE->GH->Option β) (KP:GE->Value->GH->Option β) (r:β) (Γ:bc) (Pu:Nat->Prop) (H:GH) (I:IH) (D:List Deferred) (run:eS):Prop:=
 (∃ E1 H1 Γ1 Pu1 E1' I1,K E1 H1=some r/\run=some (.normal,E1',I1,D)/\ER Γ1 Pu1 I1 E1 E1'/\aw P hint sh Γ1 Pu1 H1 I1/\Ex (bx Γ H I) Γ Pu H I Γ1 Pu1 H1 I1)∨
 (∃ E1 w H1 Γ1 Pu1 E1' I1,KP E1 w H1=some r/\run=some (.panic w,E1',I1,D)/\ER Γ1 Pu1 I1 E1 E1'/\aw P hint sh Γ1 Pu1 H1 I1/\Ex (bx Γ H I) Γ Pu H I Γ1 Pu1 H1 I1)
theorem FT.ex {K:GE->GH->Option β} {KP:GE->Value->GH->Option β} {D:List Deferred} {run:eS} (hs:aw P hint sh Γ Pu H I) (h1:aw P hint sh Γ1 Pu1 H1 I1) (e:Ex (bx Γ H I) Γ Pu H I Γ1 Pu1 H1 I1) (h:FT P hint sh K KP r Γ1 Pu1 H1 I1 D run):FT P hint sh K KP r Γ Pu H I D run:=by
 rcases h with ⟨E2,H2,Γ2,Pu2,E2',I2,j1,j2,j3,j4,j5⟩ |⟨E2,w,H2,Γ2,Pu2,E2',I2,j1,j2,j3,j4,j5⟩
 ·exact .inl ⟨E2,H2,Γ2,Pu2,E2',I2,j1,j2,j3,j4,Ex.trans hs h1 e j5⟩
 ·exact .inr ⟨E2,w,H2,Γ2,Pu2,E2',I2,j1,j2,j3,j4,Ex.trans hs h1 e j5⟩
theorem B3 (ok:dv P hint sh sf self) {fi:FI} {ro:Option Nat} {ops:Array Oper} {o:Oper} {rest:List Oper} {E:GE} {E':En} {D:List Deferred} {K2 K:GE->GH->Option β} {KP:GE->Value->GH->Option β} (hs:aw P hint sh Γ Pu H I) (he:ER Γ Pu I E E')
  (hk:∀ E H,K2 E H=some r->∀ {E' I Γ Pu},aw P hint sh Γ Pu H I->ER Γ Pu I E E'->FT P hint sh K KP r Γ Pu H I D (c7 P self fi ro ops rest E' I D))
  (h:kE dW fi ops o E (fun E=>jc dW P sh sf (bZ fi E) H o fun v H=>Om v (fun w=>KP E w H) (K2 (cC fi E o.dst v) H)) (fun E=>K2 (cC fi E o.dst (.raw Go.undef)) H)=some r):
  FT P hint sh K KP r Γ Pu H I D (c7 P self fi ro ops (o::rest) E' I D):=by
 rcases rZ h he with ⟨hw,E2,h,he2,_⟩ |⟨hw,E2,h,he2,_⟩
 ·rcases xC hs ok (bY hs he2) h with ⟨t,H1,Γ1,Pu1,v,I1,k1,k2,k3,k4,k5⟩ |⟨_,w,H1,Γ1,Pu1,I1,k1,k2,k4,k5⟩
  ·simp only [wU k3] at k1
   have:=(hk _ _ k1 k4 ((he2.mono (k5.cJ hs)).put fi o.dst k3)).ex hs k4 k5;rcases im k2 with e |⟨e,rfl⟩
   ·simp only [c7,hw,e];exact this
   ·simp only [c7,hw,e];exact this
  ·refine .inr ⟨E2,w,H1,Γ1,Pu1,E',I1,k1,?_,he2.mono (k5.cJ hs),k4,k5⟩
   simp only [c7,hw,k2]
 ·have:=hk _ _ h hs (he2.put fi o.dst (.raw Go.undef))
  simp only [c7,hw];exact this
theorem KS (ok:dv P hint sh sf self) {fi:FI} {ro:Option Nat} {ops:Array Oper}:∀ {l:List Oper} {E:GE} {E':En} {H:GH} {I:IH} {Γ:bc} {Pu:Nat->Prop} {D:List Deferred} {K:GE->GH->Option β} {KP:GE->Value->GH->Option β},od dW P sh sf fi ops l E H K KP=some r->aw P hint sh Γ Pu H I->ER Γ Pu I E E'->
  FT P hint sh K KP r Γ Pu H I D (c7 P self fi ro ops l E' I D):=by
 intro l
 induction l with
 |nil=>intro E E' H I Γ Pu D K KP h hs he;exact .inl ⟨E,H,Γ,Pu,E',I,h,rfl,he,hs,Ex.refl hs⟩
 |cons o rest ih=>
  intro E E' H I Γ Pu D K KP h hs he;simp only [od] at h;exact B3 ok (K2:=fun E H=>od dW P sh sf fi ops rest E H K KP) hs he (fun E H hk {E' I Γ Pu} hs he=>ih hk hs he) h
def XP (P:Program) (o:Oper):TypeId:=match o.op with
 | .buildSlice t _ _=>match bM P t with
  |some (e,_)=>e
  |none=>0
 |_=>0
theorem Nf:∀ {cs:List TV} {bs:List UInt8} {vs:List Value},Di cs=some bs->bK Γ Pu I cs vs->vs=bs.map fun c=>(.int .u8 c.toNat:Value):=by
 intro cs
 induction cs with
 |nil=>intro bs vs h hr;cases h;cases hr;rfl
 |cons c r ih=>
  intro bs vs h hr;unfold Di at h;split at h
  ·rename_i heq;cases heq
  ·rename_i c' r' heq
   cases heq;split at h
   ·rename_i l hl
    cases h;cases hr with |cons a b=>
    cases a;rw [ih hl b];rfl
   ·cases h
  ·cases h
theorem Rv {fi:FI} {ops:Array Oper} {E:GE} {E':En} {o o2:Oper} {d d2:Tmp} {bs:List UInt8} (hs:aw P hint sh Γ Pu H I) (he:ER Γ Pu I E E') (h:Sj P fi E o o2=some (d,d2,bs)):
  ∃ v J,aO P self (dC fi E') I o=some (.val v J)/\aO P self (dC fi (c8 fi E' (some d) v)) J o2=some (.val v (I.new (.cells (bs.map fun c=> .int .u8 c.toNat) (XP P o) 0 true true)))/\
   o.dst=some d/\o2.dst=some d2/\o.guard=none/\o2.guard=none/\
   GR Γ (fun b=>Pu b∨b=I.n) (I.new (.cells (bs.map fun c=> .int .u8 c.toNat) (XP P o) 0 true true)) (.aC .byte bs (some false) false) v:=by
 unfold Sj at h;split at h
 ·rename_i t len parts src dst d' d0 d20 ho ho2 hd hd2 hg hg2
  replace h:=ae h;obtain ⟨hb,h⟩:=h;replace hb:=af hb;obtain ⟨hb,hb4⟩:=hb;replace hb:=af hb;obtain ⟨hb,hb3⟩:=hb;replace hb:=af hb;obtain ⟨hb1,hb2⟩:=hb;have e1:=beq_true hb1;have e2:=beq_true hb2;have e3:=beq_true hb3;have e4:d0<fi.nt:=by simpa using hb4
  split at h
  ·rename_i e0 e i hu hes
   split at h
   ·rename_i z hue hz
    replace h:=ae h;obtain ⟨hb,h⟩:=h;replace hb:=af hb;obtain ⟨hb,hc5⟩:=hb;replace hb:=af hb;obtain ⟨hb,hc4⟩:=hb;replace hb:=af hb;obtain ⟨hb,hc3⟩:=hb;replace hb:=af hb;obtain ⟨hc1,hc2⟩:=hb;split at h
    ·rename_i cells hf
     obtain ⟨vs',hf',hr'⟩:=iB (vs:=⟨dx z.cells.toList len⟩) hf hc2 (HF.map (bY hs he) parts.toList) (qn (dj hc4) len);split at h
     ·rename_i bs0 hbs
      replace h:=ae h;obtain ⟨hlen,h⟩:=h;cases h;have hvs:=Nf hbs hr';have hl:=beq_true hlen;subst e1 e2 e3;have elt:XP P o=e:=by unfold XP;rw [ho];simp only [hes]
      have hlu:len<eE:=by
       have:=aB hc1;have h2:len<=len*(i.size+1):=Nat.le_mul_of_pos_right _ (by omega);unfold eE;have:(2:Nat)^24<2^64:=by decide
       omega
      refine ⟨.slice (some ⟨I.n,0,none⟩) len len,bI I e vs'.toList,?_,?_,hd,hd2,hg,hg2,?_⟩
      ·unfold aO
       simp only [ho,aW,hes,hz];rw [if_pos (by simp [(HF.map (bY hs he) parts.toList).ok hc2];exact aB hc1),if_pos (beq_true hc3),hf']
      ·rw [elt]
       unfold aO;simp only [ho2];have hop:dC fi (c8 fi E' (some d) (.slice (some ⟨I.n,0,none⟩) len len)) (.tmp d)= .slice (some ⟨I.n,0,none⟩) len len:=by
        show fw fi (nq fi d _ E') d=_
        rw [qP,if_pos ⟨rfl,e4⟩]
       rw [hop];simp only [bb,hu,hM,beq_self_eq_true,if_true,hue];have hgn:(bI I e vs'.toList).get I.n=some (.cells vs'.toList e 0 true false):=by unfold bI;rw [IH.az,if_pos rfl]
       rw [hgn];simp only [beq_self_eq_true,Bool.or_false,Bool.and_true,hs.ro,decide_true,if_true];have:(bI I e vs'.toList).put I.n (.cells vs'.toList e 0 true true)=I.new (.cells vs'.toList e 0 true true):=IH.L3 _ _ _;rw [this,hvs]
      ·rw [elt]
       refine .aC ?_ (fun c hc=>by cases hc;rfl) (fun hc=>by cases hc);refine .inr (.inl ⟨I.n,0,len,_,e,0,true,true,by rw [←hl],.inr rfl,by rw [IH.az,if_pos rfl],.inr ⟨hlu,by omega,?_⟩,?_,?_⟩)
       ·simp [Sh.sz,hl]
       ·simp [Sh.sz]
       ·exact sD
     ·cases h
    ·cases h
   ·cases h
  ·cases h
 ·cases h
theorem Pa (ok:dv P hint sh sf self) {fi:FI} {ro:Option Nat} {ops:Array Oper}:∀ (n:Nat) {l:List Oper} {E:GE} {E':En} {H:GH} {I:IH} {Γ:bc} {Pu:Nat->Prop} {D:List Deferred} {K:GE->GH->Option β} {KP:GE->Value->GH->Option β},l.length<=n->xF dW P sh sf fi ops l E H K KP=some r->aw P hint sh Γ Pu H I->ER Γ Pu I E E'->
  FT P hint sh K KP r Γ Pu H I D (c7 P self fi ro ops l E' I D):=by
 intro n
 induction n with
 |zero=>
  intro l E E' H I Γ Pu D K KP hn h hs he;cases l with
  |nil=>exact .inl ⟨E,H,Γ,Pu,E',I,h,rfl,he,hs,Ex.refl hs⟩
  |cons=>exact absurd hn (by simp)
 |succ n ih=>
  intro l E E' H I Γ Pu D K KP hn h hs he
  match l,hn,h with
  | [],hn,h=>exact .inl ⟨E,H,Γ,Pu,E',I,h,rfl,he,hs,Ex.refl hs⟩
  | [o],hn,h=>
   exact B3 ok (K2:=K) (rest:= []) hs he (fun E H hk {E' I Γ Pu} hs he=> .inl ⟨E,H,Γ,Pu,E',I,hk,rfl,he,hs,Ex.refl hs⟩) h
  |o::o2::rest,hn,h=>
   simp only [xF] at h;split at h
   ·rename_i d d2 bs hp
    obtain ⟨v,J,a1,a2,a3,a4,a5,a6,a7⟩:=Rv (self:=self) (ops:=ops) hs he hp;obtain ⟨s1,x1⟩:=hs.Kt (bs.map fun c=> .int .u8 c.toNat) (XP P o) 0 true true;have he1:=((he.mono (x1.cJ hs)).put fi (some d) a7).put fi (some d2) a7;have:=(ih (l:=rest) (D:=D) (by simp at hn;omega) h s1 he1).ex hs s1 x1;have w1:bG fi ops E' o=some true:=by unfold bG;rw [a5]
    have w2:bG fi ops (c8 fi E' (some d) v) o2=some true:=by unfold bG;rw [a6]
    simp only [c7,w1,a1,a3,w2,a2,a4];exact this
   ·exact B3 ok (K2:=fun E H=>xF dW P sh sf fi ops (o2::rest) E H K KP) (rest:=o2::rest) hs he (fun E H hk {E' I Γ Pu} hs he=>ih (by simp at hn ⊢;omega) hk hs he) h
def Vu:Value->Option Nat
 | .pointer (some a)=>some a.block
 | .slice (some a) _ _=>some a.block
 |_=>none
theorem BG {t:TypeId} {a v:Value} {J:IH} (h:dy P I t a=some (.val v J)) (hb:∀ b,Vu a=some b->I2.get b=I.get b):dy P I2 t a=some (.val v I2):=by
 unfold dy at h ⊢;split at h
 ·rename_i b off
  have hg:=hb b rfl;have e:iS P I2 t b off=iS P I t b off:=by simp only [iS,IH.bq,hg]
  rw [e];split at h
  ·rename_i v' hv
   cases h;rfl
  ·cases h
 ·cases h
def Zh:Value->Bool
 | .slice _ l _=>l !=0
 |_=>true
theorem Dk {src dst:TypeId} {a v:Value} {J:IH} (h1:∀ e,¬ (P.underlying src=some .string/\P.underlying dst=some (.slice e))) (h2:∀ e e',¬ (P.underlying src=some (.slice e)/\P.underlying dst=some (.slice e')))
  (h:bb P I src dst a=some (.val v J)) (hb:∀ b,Vu a=some b->Zh a=true->I2.get b=I.get b):bb P I2 src dst a=some (.val v I2):=by
 unfold bb at h ⊢;split at h
 ·split at h
  ·cases h;rfl
  ·cases h
 ·split at h
  ·cases h;rfl
  ·cases h
 ·split at h
  ·cases h;rfl
  ·cases h
 ·rename_i hs hd
  exact absurd ⟨hs,hd⟩ (h1 _)
 ·rename_i hs hd
  exact absurd ⟨hs,hd⟩ (h2 _ _)
 ·unfold db at h ⊢
  split at h
  ·cases h;rfl
  ·rename_i b off len c hu
   split at h
   ·rename_i hl
    cases h;rw [if_pos hl]
   ·rename_i hl
    have hg:=hb b rfl (by simp [Zh,hl]);have e:I2.bq b off len=I.bq b off len:=by simp only [IH.bq,hg]
    rw [if_neg hl,e];split at h
    ·rename_i cs hcs
     split at h
     ·rename_i bs hbs
      cases h;rfl
     ·cases h
    ·cases h
  ·cases h
 ·unfold dP at h ⊢
  split at h
  ·cases h;rfl
  ·rename_i b off
   have hg:=hb b rfl rfl;rw [hg];split at h
   ·rename_i cs e f ex sd hc
    split at h
    ·rename_i hq
     cases h;rw [if_pos hq]
    ·cases h
   ·cases h
  ·cases h
 ·unfold cY at h ⊢
  split at h
  ·cases h;rfl
  ·rename_i b off
   have hg:=hb b rfl rfl;rw [hg];split at h
   ·rename_i cs e f ex sd hc
    split at h
    ·rename_i hq
     cases h;rw [if_pos hq]
    ·cases h
   ·cases h
  ·cases h
 ·cases h
def wG:Value->Bool
 | .int _ _ | .string _ | .bool _ | .agg _=>true
 |_=>false
theorem Jq {t:TypeId} {a b:Value} (ha:wG a=true) (hb:wG b=true):ef P I2 t a b=ef P I t a b:=by
 cases a<;>first |(cases ha;done) |skip
 all_goals cases b<;>first |(cases hb;done) |skip
 all_goals
  unfold ef;cases P.underlying t with
  |none=>rfl
  |some d=>cases d<;>rfl
theorem Pp {op:BinOp} {t:TypeId} {x y:Operand} {a b v:Value} {J:IH} (ha:wG a=true) (hb:wG b=true) (h:aD P I op t x y a b=some (.val v J)):aD P I2 op t x y a b=some (.val v I2):=by
 have heq:∀ neg,bT P I neg t x y a b=some (.val v J)->bT P I2 neg t x y a b=some (.val v I2):=by
  intro neg h;have e:=Jq (P:=P) (I:=I) (I2:=I2) (t:=t) ha hb;simp only [bT] at h ⊢;split at h
  ·split at h
   ·rename_i hk;cases h;rw [if_pos hk]
   ·cases h
  ·cases h;rfl
  ·simp only [e]
   split at h
   ·cases h;rfl
   ·split at h
    ·rename_i hf
     rw [if_pos hf];split at h
     ·split at h
      ·rename_i hk;cases h;rw [if_pos hk]
      ·cases h
     ·cases h
    ·cases h
 simp only [aD] at h ⊢;split at h
 ·exact heq _ h
 ·exact heq _ h
 all_goals
  cases a<;>first |(cases ha;done) |skip
  all_goals cases b<;>first |(cases hb;done) |skip
  all_goals simp only [reduceCtorEq] at h ⊢
  all_goals first
   |done
   |(cases h;rfl)
   |(
     split at h
     ·first
      |(rename_i hk;cases h;rw [if_pos hk];done)
      |(
       split at h
       ·first
        |(rename_i hk;cases h;rw [if_pos hk];done)
        |(
          split at h
          ·rename_i hk;cases h;rw [if_pos hk]
          ·cases h)
       ·cases h)
     ·cases h)
theorem Af {t:TV} {v:Value} (h:H8 t=true) (hr:GR Γ Pu I t v):wG v=true:=by
 cases hr<;>first |rfl |(cases h)
theorem IS {o:Option Value} {v:Value} {J:IH} (h:Iv.valOf I o=some (.val v J)):Iv.valOf I2 o=some (.val v I2):=by
 unfold Iv.valOf at h ⊢;split at h
 ·cases h;rfl
 ·cases h
theorem nv {s:Sem Value} {v:Value} {J:IH} (h:cR P I s=some (.val v J)):cR P I2 s=some (.val v I2):=by
 unfold cR at h ⊢;split at h
 ·split at h
  ·rename_i hk;cases h;rw [if_pos hk]
  ·cases h
 ·cases h
theorem Ra {t:TypeId} {x:Value} (hx:(∃ s,x= .string s)∨(∃ a l c,x= .slice a l c)∨x= .map none∨∃ b,x= .map (some b)/\I2.get b=I.get b):eD P I2 t x=eD P I t x:=by
 unfold eD;rcases hx with ⟨s,rfl⟩ |⟨a,l,c,rfl⟩ |rfl |⟨b,rfl,hb⟩
 ·cases P.underlying t with
  |none=>rfl
  |some d=>cases d<;>rfl
 ·cases P.underlying t with
  |none=>rfl
  |some d=>cases d<;>rfl
 ·cases P.underlying t with
  |none=>rfl
  |some d=>cases d<;>rfl
 ·cases P.underlying t with
  |none=>rfl
  |some d=>cases d<;>simp only [hb]
theorem DV {t:TypeId} {x k:Value} {ok:Bool} {v:Value} {J:IH} (h:cU P I t x k ok=some (.val v J)) (hb:∀ b,x= .map (some b)->I2.get b=I.get b):cU P I2 t x k ok=some (.val v I2):=by
 unfold cU at h ⊢;split at h
 ·simp only [hb _ rfl]
  split at h
  ·rename_i es ck hg
   split at h
   ·rename_i hk
    rw [if_pos hk];split at h
    ·cases h;rfl
    ·split at h
     ·cases h;rfl
     ·cases h
    ·cases h
   ·cases h
  ·cases h
 ·split at h
  ·rename_i hk
   rw [if_pos hk];split at h
   ·cases h;rfl
   ·cases h
  ·cases h
 ·cases h
theorem cy.BL {e:Sh} {xs:List e.ty} {v:Value} (h:cy Pu I (.aJ e) xs [v]):v= .slice none 0 0∨∃ b off len cap,v= .slice (some ⟨b,off,none⟩) len cap/\(Pu b∨len=0):=by
 unfold cy at h;rcases h with ⟨_,h⟩ |⟨b,off,cap,cs,et,fz,ex,sd,h,hb,_⟩ |⟨_,b,h⟩
 ·cases h;exact .inl rfl
 ·cases h;exact .inr ⟨b,off,_,cap,rfl,.inl hb⟩
 ·cases h;exact .inr ⟨b,0,0,0,rfl,.inr rfl⟩
theorem nf {l:Loc} {off len:Nat} {v:Value} (h:fT l off len v):v= .slice none 0 0∨∃ b o o' n cap,v= .slice (some ⟨b,o,none⟩) n cap/\l.pos=some (b,o'):=by
 unfold fT at h;split at h
 ·exact .inl h.1
 ·rename_i b o hp
  obtain ⟨cap,rfl,_⟩:=h;exact .inr ⟨b,_,o,_,cap,rfl,hp⟩
theorem Dy {Z:Operand->TV} {Z':Operand->Value} {o:Oper} {ids:List Nat} {p:Bool} {v:Value} {J:IH} (hk:kindOf P o= .read) (ht:kN Z o=some (ids,p)) (hρ:∀ x,GR Γ Pu I (Z x) (Z' x)) (h:aO P self Z' I o=some (.val v J))
  (h1:∀ id∈ids,∀ l b x,Γ id=some l->l.pos=some (b,x)->I2.get b=I.get b) (h2:p=true->∀ b,Pu b->I2.get b=I.get b):aO P self Z' I2 o=some (.val v I2):=by
 unfold kN at ht;split at ht
 ·rename_i t a ho
  simp only [aO,ho] at h ⊢;have hv:=hρ a;generalize Z' a=w at hv h;generalize Z a=q at ht hv;refine BG h fun b hb=>?_
  split at ht
  ·cases ht
   cases hv with |ptr hl hp=>cases hb;exact h1 _ (List.mem_cons_self ..) _ _ _ hl hp
  ·cases ht
   cases hv with |jd hl hp=>cases hb;exact h1 _ (List.mem_cons_self ..) _ _ _ hl hp
  ·cases ht
   cases hv with |oC hb' _ _ _=>cases hb;exact h2 rfl _ hb'
  ·cases ht
 ·rename_i op t x y yt ho
  simp only [aO,ho] at h ⊢;replace ht:=ae ht;obtain ⟨hc,ht⟩:=ht;simp only [zae] at hc;exact Pp (Af hc.1 (hρ x)) (Af hc.2 (hρ y)) h
 ·rename_i t x k ok ho
  simp only [aO,ho] at h ⊢;have hv:=hρ x;generalize Z' x=w at hv h;generalize Z x=q at ht hv;refine DV h fun b hb=>?_
  split at ht
  ·cases ht
   cases hv with |mp hl hm=>
   unfold SJ at hm;split at hm
   ·subst hm;cases hb
   ·rename_i b' x' hp
    subst hm;cases hb;exact h1 _ (List.mem_cons_self ..) _ _ _ hl hp
  ·cases ht;cases hv;cases hb
  ·cases ht
 ·rename_i c ho
  obtain ⟨callee,args,ats⟩:=c;simp only at ht;split at ht
  ·split at ht
   ·rename_i x hx
    simp only [aO,ho,da,hx,List.map_cons,List.map_nil,bk] at h ⊢;have hv:=hρ x;generalize Z' x=w at hv h;generalize Z x=q at ht hv;have hx:(∃ s,w= .string s)∨(∃ a l c,w= .slice a l c)∨w= .map none∨∃ b,w= .map (some b)/\I2.get b=I.get b:=by
     split at ht
     ·cases hv;exact .inl ⟨_,rfl⟩
     ·cases hv with |aC he _ _=>rcases he.BL with h |⟨_,_,_,_,h,_⟩<;>exact .inr (.inl ⟨_,_,_,h⟩)
     ·cases hv with |all _ he=>rcases nf he with h |⟨_,_,_,_,_,h,_⟩<;>exact .inr (.inl ⟨_,_,_,h⟩)
     ·cases hv with |own _ _ he=>rcases nf he with h |⟨_,_,_,_,_,h,_⟩<;>exact .inr (.inl ⟨_,_,_,h⟩)
     ·cases hv;exact .inr (.inl ⟨_,_,_,rfl⟩)
     ·cases hv with |mp hl hm=>
      cases ht;unfold SJ at hm;split at hm
      ·exact .inr (.inr (.inl hm))
      ·rename_i b _ hp
       exact .inr (.inr (.inr ⟨b,hm,h1 _ (List.mem_cons_self ..) _ _ _ hl hp⟩))
     ·cases ht
    split at h
    ·rename_i t hat
     simp only [Ra (P:=P) (I:=I) (I2:=I2) hx];exact IS h
    ·cases h
   ·cases ht
  ·simp only [aO,ho,da,bk] at h ⊢
   split at h
   ·rename_i hf
    rw [if_pos hf];exact nv h
   ·cases h
  ·simp only [aO,ho,da,bk] at h ⊢
   split at h
   ·rename_i hf
    rw [if_pos hf];exact nv h
   ·cases h
  ·simp only [aO,ho,da] at h ⊢
   generalize args.toList.map Z'=l at h ⊢;unfold bk at h ⊢;cases l with
   |nil=>simp at h
   |cons a r=>
    cases r with
    |cons b r=>simp at h
    |nil=>
     cases a with
     |slice q n k=>
      cases q with
      |none=>cases h;rfl
      |some q=>
       simp only at h ⊢;split at h
       ·cases h
       ·rename_i hn;rw [if_neg hn];cases h;rfl
     |_=>simp at h
  ·cases ht
 ·rename_i src dst x ho
  simp only [aO,ho] at h ⊢;have hv:=hρ x;generalize Z' x=w at hv h;generalize Z x=q at ht hv;refine Dk (fun e he=>?_) (fun e e' he=>?_) h fun b hb hnz=>?_
  ·simp only [kindOf,ho,he.1,he.2] at hk;cases hk
  ·simp only [kindOf,ho,he.1,he.2] at hk;cases hk
  ·split at ht
   ·cases ht
    cases hv with |all hl he=>
    rcases nf he with rfl |⟨_,_,_,_,_,rfl,hp⟩
    ·cases hb
    ·cases hb;exact h1 _ (List.mem_cons_self ..) _ _ _ hl hp
   ·cases ht
    cases hv with |own hl _ he=>
    rcases nf he with rfl |⟨_,_,_,_,_,rfl,hp⟩
    ·cases hb
    ·cases hb;exact h1 _ (List.mem_cons_self ..) _ _ _ hl hp
   ·cases hv;cases hb
   ·cases hv;cases hb
   ·cases hv;cases hb
   ·cases ht
    cases hv with |aC he _ _=>
    rcases he.BL with rfl |⟨_,_,_,_,rfl,hp⟩
    ·cases hb
    ·cases hb
     rcases hp with hp |rfl
     ·exact h2 rfl _ hp
     ·cases hnz
   ·cases ht
 ·cases ht
theorem BK {t:TV} {v:Value} (h:mm t=true) (hr:GR Γ Pu I t v):ll v v=true:=by
 cases hr with
 |aC he _ _=>rcases he.BL with rfl |⟨_,_,_,_,rfl,_⟩<;>simp [ll]
 |all _ he=>rcases nf he with rfl |⟨_,_,_,_,_,rfl,_⟩<;>simp [ll]
 |own _ _ he=>rcases nf he with rfl |⟨_,_,_,_,_,rfl,_⟩<;>simp [ll]
 |raw v=>unfold mm at h;simp only at h;split at h<;>first |(simp [ll];done) |cases h
 |agg |jg |fn |mX |undef=>cases h
 |mp _ he=>obtain ⟨q,rfl⟩:=he.map;simp [ll]
 |_=>simp [ll]
theorem qC {cs:List TV} {vs:List Value} (h:cs.all mm=true) (hr:bK Γ Pu I cs vs):mg vs vs=true:=by
 induction cs generalizing vs with
 |nil=>cases hr;rfl
 |cons c r ih=>
  cases hr with |cons a b=>
  simp only [List.all_cons,zae] at h;simp only [mg,BK h.1 a,ih h.2 b,Bool.and_self]
theorem MQ {v:Value} (h:ll v v=true):ld v v=true:=by
 cases v<;>first |exact h |cases h
theorem Gr {t:TV} {v:Value} (h:La t=true) (hr:GR Γ Pu I t v):ld v v=true:=by
 unfold La at h;split at h
 ·cases hr with |agg hs=>exact qC h hs
 ·cases hr with |jg hs=>exact qC h hs
 ·cases hr with |fn ha hc=>
  simp only [zae] at h;simp only [ld,beq_self_eq_true,Bool.true_and];rw [qC h.1 ha,qC h.2 hc];rfl
 ·exact MQ (BK h hr)
theorem GF {Z':Operand->Value} {o:Oper} {J:IH} (hk:kindOf P o= .read):aO P self Z' I o≠some (.skip J):=by
 intro h;cases ho:o.op with
 |load t a=>
  simp only [aO,ho,dy] at h
  repeat' split at h
  all_goals cases h
 |lookup t x k ok=>
  simp only [aO,ho,cU] at h
  repeat' split at h
  all_goals cases h
 |binOp op t x y yt=>
  simp only [aO,ho,aD,bT] at h
  repeat' split at h
  all_goals cases h
 |convert src dst x=>
  simp only [aO,ho,bb,db,dP,cY,fk] at h;split at h
  all_goals first
   |(exfalso;rename_i e1 e2;simp only [kindOf,ho,e1,e2] at hk;cases hk;done)
   |(
     repeat' split at h
     all_goals cases h)
 |call c=>
  obtain ⟨callee,args,ats⟩:=c;cases callee with
  |builtin b=>
   simp only [aO,ho,da] at h;unfold bk at h;split at h
   all_goals first
    |(simp [kindOf,ho] at hk;done)
    |(
      simp only [cR,Iv.valOf] at h
      repeat' split at h
      all_goals cases h)
    |(
      repeat' split at h
      all_goals cases h)
  |value f=>simp [kindOf,ho] at hk
  |invoke r n=>simp [kindOf,ho] at hk
 |_=>simp [kindOf,ho] at hk
structure IE where
 Γ:bc
 Pu:Nat->Prop
 H:GH
 I:IH
structure Hi (Γ:bc) (Pu:Nat->Prop) (H:GH) (I:IH) (Γ1:bc) (Pu1:Nat->Prop) (H1:GH) (I1:IH):Prop where
 g:∀ id l,Γ id=some l->Γ1 id=some l
 p:∀ b,Pu b->Pu1 b
 i:∀ b,Pu b->I1.get b=I.get b
 hn:H.n<=H1.n
 ck:H.ck<=H1.ck
 yW:∀ id,id<H.n->H1.aT id=none∨H1.aT id=H.aT id∨∃ s,H1.aT id=some s/\H.ck<=s
 jv:∀ id l b x s,H.aT id=some s->H1.aT id=some s->Γ id=some l->l.pos=some (b,x)->I1.get b=I.get b
theorem Hi.refl:Hi Γ Pu H I Γ Pu H I:=⟨fun _ _ h=>h,fun _ h=>h,fun _ _=>rfl,zai _,zai _,fun _ _=> .inr (.inl rfl),fun _ _ _ _ _ _ _ _ _=>rfl⟩
theorem Hi.of {O:Nat->Prop} (hs:aw P hint sh Γ Pu H I) (h:Ex O Γ Pu H I Γ1 Pu1 H1 I1) (ho:∀ b,Pu b->¬ O b):Hi Γ Pu H I Γ1 Pu1 H1 I1:=
 ⟨h.g,h.p,fun b hb=>h.cI b (hs.jh hb) (ho b hb),h.hn,h.ck,h.yW,h.jv⟩
theorem Hi.trans {Γ2:bc} {Pu2:Nat->Prop} {H2:GH} (hs:aw P hint sh Γ Pu H I) (h:Hi Γ Pu H I Γ1 Pu1 H1 I1) (k:Hi Γ1 Pu1 H1 I1 Γ2 Pu2 H2 I2):Hi Γ Pu H I Γ2 Pu2 H2 I2 where
 g:=fun id l x=>k.g id l (h.g id l x)
 p:=fun b x=>k.p b (h.p b x)
 i:=fun b hb=>(k.i b (h.p b hb)).trans (h.i b hb)
 hn:=Nat.le_trans h.hn k.hn
 ck:=Nat.le_trans h.ck k.ck
 yW:=fun id hid=>by
  rcases k.yW id (Nat.lt_of_lt_of_le hid h.hn) with x |x |⟨s,x,y⟩
  ·exact .inl x
  ·rw [x];exact h.yW id hid
  ·exact .inr (.inr ⟨s,x,Nat.le_trans h.ck y⟩)
 jv:=fun id l b x s hs0 hs2 hl hp=>by
  have hid:=hs.bj id l hl;have hlt:=hs.st id s hs0;rcases k.yW id (Nat.lt_of_lt_of_le hid h.hn) with y |y |⟨s',y,z⟩
  ·rw [y] at hs2;cases hs2
  ·rw [y] at hs2
   exact (k.jv id l b x s hs2 (y.trans hs2) (h.g id l hl) hp).trans (h.jv id l b x s hs0 hs2 hl hp)
  ·rw [y] at hs2;cases hs2
   have:=h.ck;omega
theorem Hi.cJ (h:Hi Γ Pu H I Γ1 Pu1 H1 I1):cH Γ Pu I Γ1 Pu1 I1:=⟨h.g,h.p,h.i⟩
def SF (P:Program) (hint:Hint) (sh:cA) (H0:GH) (I0:IH) (Γ:bc) (Pu:Nat->Prop) (H:GH) (I:IH):Prop:=
 ∃ Γ0 Pu0,aw P hint sh Γ0 Pu0 H0 I0/\Hi Γ0 Pu0 H0 I0 Γ Pu H I
theorem SF.step {H0:GH} {I0:IH} (h:SF P hint sh H0 I0 Γ Pu H I) (e:Hi Γ Pu H I Γ1 Pu1 H1 I1):SF P hint sh H0 I0 Γ1 Pu1 H1 I1:=by
 obtain ⟨Γ0,Pu0,s0,e0⟩:=h;exact ⟨Γ0,Pu0,s0,Hi.trans s0 e0 e⟩
theorem zU {f g:Nat->Option Nat} {ids:List Nat} (h:vA (ids.map f) (ids.map g)=true):∀ id∈ids,∃ s,f id=some s/\g id=some s:=by
 induction ids with
 |nil=>intro id hi;cases hi
 |cons a r ih=>
  simp only [List.map_cons] at h;cases hf:f a with
  |none=>rw [hf] at h;cases h
  |some x=>
   cases hg:g a with
   |none=>rw [hf,hg] at h;cases h
   |some y=>
    rw [hf,hg] at h;simp only [vA,zae] at h;have:=Nat.eq_of_beq_eq_true h.1;subst this;intro id hi;rcases List.mem_cons.1 hi with rfl |hi
    ·exact ⟨x,hf,hg⟩
    ·exact ih h.2 id hi
def Vd (P:Program) (hint:Hint) (sh:cA) (o:Option GH) (I0:IH) (Γ:bc) (Pu:Nat->Prop) (H:GH) (I:IH):Prop:=
 match o with
 |some H0=>SF P hint sh H0 I0 Γ Pu H I
 |none=>True
def Vg (P:Program) (hint:Hint) (sh:cA) (B:IE) (Γ:bc) (Pu:Nat->Prop) (H:GH) (I:IH):List (Nat×Option GH)->List (Nat×IH)->Prop
 | [],[]=>True
 |(c,q)::r,(c',I0)::r'=>(c=c'/\(∀ b,B.Pu b->I0.get b=B.I.get b)/\Vd P hint sh q I0 Γ Pu H I)/\Vg P hint sh B Γ Pu H I r r'
 |_,_=>False
theorem Vg.step {B:IE} {l:List (Nat×Option GH)} {l':List (Nat×IH)} (h:Vg P hint sh B Γ Pu H I l l') (e:Hi Γ Pu H I Γ1 Pu1 H1 I1):Vg P hint sh B Γ1 Pu1 H1 I1 l l':=by
 induction l generalizing l' with
 |nil=>cases l' with
  |nil=>trivial
  |cons _ _=>exact h.elim
 |cons p r ih=>cases l' with
  |nil=>exact h.elim
  |cons q r'=>
   obtain ⟨c,o⟩:=p;obtain ⟨⟨h1,h2,h3⟩,h4⟩:=h;refine ⟨⟨h1,h2,?_⟩,ih h4⟩;cases o with
   |none=>trivial
   |some H0=>exact SF.step h3 e
theorem xW {B:IE} {m:Nat} {l:List (Nat×Option GH)} {l':List (Nat×IH)} (h:Vg P hint sh B Γ Pu H I l l') (hc:qR m l=true):chained m l'=true:=by
 induction l generalizing l' with
 |nil=>cases l' with
  |nil=>rfl
  |cons _ _=>exact h.elim
 |cons p r ih=>cases l' with
  |nil=>exact h.elim
  |cons q r'=>
   obtain ⟨⟨h1,h2,h3⟩,h4⟩:=h;obtain ⟨c,H0⟩:=p;obtain ⟨c',I0⟩:=q;subst h1;simp only [qR,zae] at hc;simp only [chained,hc.1,ih h4 hc.2,Bool.and_self]
theorem Jl {B:IE} {fi:FI} {E:GE} {T:En} {o:Oper} {v:Value} {ids:List Nat} {p:Bool} {m:Nat} (hk:kindOf P o= .read) (hs:aw P hint sh Γ Pu H I) (he:ER Γ Pu I E T) (ht:kN (bZ fi E) o=some (ids,p))
  (hv:aO P self (dC fi T) I o=some (.val v I)) (hsame:ld v v=true) {l:List (Nat×Option GH)} {l':List (Nat×IH)} (h:Vg P hint sh B Γ Pu H I l l') (hc:qq H ids p m l=true):fJ P self fi T o v m l'=true:=by
 induction l generalizing l' with
 |nil=>cases l' with
  |nil=>rfl
  |cons _ _=>exact h.elim
 |cons a r ih=>cases l' with
  |nil=>exact h.elim
  |cons b r'=>
   obtain ⟨⟨h1,h2,h3⟩,h4⟩:=h;obtain ⟨c,q⟩:=a;obtain ⟨c',I0⟩:=b;subst h1;simp only [qq,zae,Bool.or_eq_true] at hc;simp only [fJ,ih h4 hc.2,Bool.and_true,Bool.or_eq_true];rcases hc.1 with hc |hq
   ·exact .inl hc
   ·right
    cases q with
    |none=>cases hq
    |some H0=>
     simp only [zae,Bool.not_eq_true'] at hq;obtain ⟨hp,hst⟩:=hq;obtain ⟨Γ0,Pu0,s0,e0⟩:=h3;have:=Dy (self:=self) (I2:=I0) hk ht (bY hs he) hv (fun id hi l b x hl hpos=>by
      obtain ⟨s,q1,q2⟩:=zU hst id hi;obtain ⟨ob,hob⟩:=GH.iv q1;obtain ⟨l0,hl0,_⟩:=s0.obj id ob hob;have:=e0.g id l0 hl0;cases this.symm.trans hl;exact (e0.jv id l b x s q1 q2 hl0 hpos).symm) (fun hp'=>by rw [hp] at hp';cases hp')
     simp only [sameAt,zL,this,hsame]
def YH (P:Program) (hint:Hint) (sh:cA) (self:Self) (fi:FI) (Γ:bc) (Pu:Nat->Prop) (H:GH) (I:IH) (g:WO) (q:Rd):Prop:=
 g.i=q.i/\∃ Γ0 Pu0 H0 I0 E0 p,aw P hint sh Γ0 Pu0 H0 I0/\Hi Γ0 Pu0 H0 I0 Γ Pu H I/\ER Γ0 Pu0 I0 E0 q.T/\kindOf P q.o= .read/\kN (bZ fi E0) q.o=some (g.ids,p)/\g.st=g.ids.map H0.aT/\
  aO P self (dC fi q.T) I0 q.o=some (.val q.v I0)/\ld q.v q.v=true
def WU (P:Program) (hint:Hint) (sh:cA) (self:Self) (fi:FI) (Γ:bc) (Pu:Nat->Prop) (H:GH) (I:IH):List WO->List Rd->Prop
 | [],[]=>True
 |g::r,q::r'=>YH P hint sh self fi Γ Pu H I g q/\WU P hint sh self fi Γ Pu H I r r'
 |_,_=>False
theorem WU.step {fi:FI} {l:List WO} {l':List Rd} (h:WU P hint sh self fi Γ Pu H I l l') (e:Hi Γ Pu H I Γ1 Pu1 H1 I1):WU P hint sh self fi Γ1 Pu1 H1 I1 l l':=by
 induction l generalizing l' with
 |nil=>cases l' with
  |nil=>trivial
  |cons _ _=>exact h.elim
 |cons p r ih=>cases l' with
  |nil=>exact h.elim
  |cons q r'=>
   obtain ⟨⟨h1,Γ0,Pu0,H0,I0,E0,pp,k1,k2,k3⟩,h3⟩:=h;exact ⟨⟨h1,Γ0,Pu0,H0,I0,E0,pp,k1,Hi.trans k1 k2 e,k3⟩,ih h3⟩
theorem wY {fi:FI} {m:Nat} {l:List WO} {l':List Rd} (h:WU P hint sh self fi Γ Pu H I l l') (hc:l5 H m l=true):gp P self fi I m l'=true:=by
 induction l generalizing l' with
 |nil=>cases l' with
  |nil=>rfl
  |cons _ _=>exact h.elim
 |cons g r ih=>cases l' with
  |nil=>exact h.elim
  |cons q r'=>
   obtain ⟨⟨h1,Γ0,Pu0,H0,I0,E0,p,s0,e0,he,hk,ht,hst,hv,hsame⟩,h3⟩:=h;simp only [l5,zae,Bool.or_eq_true] at hc;simp only [gp,ih h3 hc.2,Bool.and_true,Bool.or_eq_true];rcases hc.1 with hc |hq
   ·rw [h1] at hc;exact .inl hc
   ·right
    rw [hst] at hq;have:=Dy (self:=self) (I2:=I) hk ht (bY s0 he) hv (fun id hi l b x hl hpos=>by
     obtain ⟨s,q1,q2⟩:=zU hq id hi;exact e0.jv id l b x s q1 q2 hl hpos) (fun _ b hb=>e0.i b hb)
    simp only [sameAt,zL,this,hsame]
theorem Gw {B:IE} {fi:FI} {T:En} {o:Oper} {v:Value} {m:Nat} (h0:∀ I2,(∀ b,B.Pu b->I2.get b=B.I.get b)->aO P self (dC fi T) I2 o=some (.val v I2)) (hsame:ld v v=true)
  {l:List (Nat×Option GH)} {l':List (Nat×IH)} (h:Vg P hint sh B Γ Pu H I l l'):fJ P self fi T o v m l'=true:=by
 induction l generalizing l' with
 |nil=>cases l' with
  |nil=>rfl
  |cons _ _=>exact h.elim
 |cons a r ih=>cases l' with
  |nil=>exact h.elim
  |cons b r'=>
   obtain ⟨⟨h1,h2,h3⟩,h4⟩:=h;obtain ⟨c,q⟩:=a;obtain ⟨c',I0⟩:=b;subst h1;have:=h0 I0 h2;simp only [fJ,ih h4,Bool.and_true,sameAt,zL,this,hsame,Bool.or_true]
def pB (fi:FI) (B:IE) (aZ:List Nat) (E:GE) (T:En):Prop:=∀ t,ou aZ t=false->GR B.Γ B.Pu B.I (fx fi E t) (fw fi T t)
theorem PM {fi:FI} {E:GE} {T:En} {d k:Nat} {t:TV} {v:Value} (h1:k=d->GR Γ Pu I t v) (h2:k≠d->GR Γ Pu I (fx fi E k) (fw fi T k)):GR Γ Pu I (fx fi (dc fi d t E) k) (fw fi (nq fi d v T) k):=by
 by_cases hk:k=d
 ·subst hk
  have hv:=h1 rfl;unfold fx fw dc nq;cases hc:cls fi k with
  |out=>exact .undef _
  |loc=>
   show GR Γ Pu I (eX (nk E.loc k t) k) (lk (Iv.My T.loc k v) k)
   rw [fP,xY,if_pos rfl,if_pos rfl];exact hv
  |tmp=>
   show GR Γ Pu I (eX (.c k t E.tmp) k) (lk (.c k v T.tmp) k)
   simp only [eX,lk,Nat.beq_refl,zac];exact hv
 ·have h:=h2 hk
  have hb:Nat.beq d k=false:=fY (Ne.symm hk);have e1:fx fi (dc fi d t E) k=fx fi E k:=by
   unfold fx dc;cases cls fi d<;>cases cls fi k<;>simp only [fP,if_neg hk,eX,hb,zab]
  have e2:fw fi (nq fi d v T) k=fw fi T k:=by
   unfold fw nq;cases cls fi d<;>cases cls fi k<;>simp only [xY,if_neg hk,lk,hb,zab]
  rw [e1,e2];exact h
theorem Tw {fi:FI} {E:GE} {T:En} {d k:Nat} {t:TV} (h1:GR Γ Pu I t (fw fi T d)) (h2:GR Γ Pu I (fx fi E k) (fw fi T k)):GR Γ Pu I (fx fi (dc fi d t E) k) (fw fi T k):=by
 by_cases hk:k=d
 ·subst hk
  unfold fx dc;cases hc:cls fi k with
  |out=>exact .undef _
  |loc=>
   show GR Γ Pu I (eX (nk E.loc k t) k) _
   rw [fP,if_pos rfl];exact h1
  |tmp=>
   show GR Γ Pu I (eX (.c k t E.tmp) k) _
   simp only [eX,Nat.beq_refl,zac];exact h1
 ·have hb:Nat.beq d k=false:=fY (Ne.symm hk)
  have e1:fx fi (dc fi d t E) k=fx fi E k:=by
   unfold fx dc;cases cls fi d<;>cases cls fi k<;>simp only [fP,if_neg hk,eX,hb,zab]
  rw [e1];exact h2
theorem pB.guard {fi:FI} {B:IE} {aZ:List Nat} {E E2:GE} {T:En} (h:pB fi B aZ E T) (hg:Ye fi E T E2):pB fi B aZ E2 T:=by
 rcases hg with rfl |⟨d,c,rfl,hd⟩
 ·exact h
 ·intro k hk
  exact Tw (by rw [hd];exact .bool c) (h k hk)
theorem pB.put {fi:FI} {B:IE} {aZ:List Nat} {E:GE} {T:En} (h:pB fi B aZ E T) {d:Option Tmp} {t:TV} {v:Value} (hv:GR B.Γ B.Pu B.I t v):pB fi B aZ (cC fi E d t) (c8 fi T d v):=by
 cases d with
 |none=>exact h
 |some d=>exact fun k hk=>PM (fun _=>hv) fun _=>h k hk
theorem Oh {t:TV} {v:Value} {Γ':bc} {Pu':Nat->Prop} {I':IH} (hp:gU t=true) (h:GR Γ Pu I t v):GR Γ' Pu' I' t v:=by
 cases h<;>first |(cases hp;done) |skip
 ·exact .int _ _
 ·exact .byte _
 ·exact .bool _
 ·exact .str _
theorem pB.aZ {fi:FI} {B:IE} {aZ:List Nat} {E:GE} {T:En} (h:pB fi B aZ E T) {d:Option Tmp} {t:TV} {v:Value} (hv:GR Γ Pu I t v):pB fi B (ju (gU t) d aZ) (cC fi E d t) (c8 fi T d v):=by
 unfold ju;cases hp:gU t with
 |true=>exact h.put (Oh hp hv)
 |false=>
  cases d with
  |none=>exact h
  |some d=>
   intro k hk;simp only [zab,ou] at hk;refine PM (fun e=>?_) fun _=>h k ?_
   ·subst e;simp at hk
   ·revert hk;cases ou aZ k<;>simp
theorem o9 {fi:FI} {B:IE} {aZ:List Nat} {E:GE} {T:En} (h:pB fi B aZ E T) {x:Operand} (hx:MR aZ x=true):GR B.Γ B.Pu B.I (bZ fi E x) (dC fi T x):=by
 cases x with
 |tmp t=>exact h t (by simpa [MR] using hx)
 |_=>cases hx
theorem J3 {fi:FI} {B:IE} {aZ:List Nat} {E:GE} {T:En} {o:Oper} {K:TV->GH->Option β} (h:pB fi B aZ E T) (he:ER Γ Pu I E T) (hs:aw P hint sh Γ Pu H I) (ho:vj (bZ fi E) aZ o=true) (hg:jc dW P sh sf (bZ fi E) H o K=some r):
  ∃ t v,K t H=some r/\GR B.Γ B.Pu B.I t v/\aO P self (dC fi T) I o=some (.val v I):=by
 unfold vj at ho;split at ho
 ·rename_i x hop
  simp only [jc,hop] at hg;exact ⟨_,_,hg,o9 h ho,by simp only [aO,hop]⟩
 ·rename_i x hop
  simp only [jc,hop] at hg;exact ⟨_,_,hg,o9 h ho,by simp only [aO,hop]⟩
 ·rename_i t x ix hop
  simp only [zae] at ho;have h1:=o9 h ho.1;have h2:=bY (fi:=fi) hs he ix;simp only [jc,hop] at hg;simp only [aO,hop];have hc:=ho.2;generalize dC fi T x=x' at h1;generalize dC fi T ix=ix' at h2;generalize bZ fi E x=gx at h1 hc hg;generalize bZ fi E ix=gi at h2 hc hg;split at hc
  ·rename_i e xs nl cl k i
   cases h2;cases h1 with |aC hen _ _=>
   simp only [Yf] at hg;rw [uR] at hg;unfold fe at hg;split at hg
   ·rename_i e2 e1;cases e1;cases e2
   ·rename_i e0 s0 xs0 _ _ _ i0 hu q1 q2
    cases q1;cases q2;split at hg
    ·rename_i inf hinf
     replace hg:=ae hg;obtain ⟨hb,hg⟩:=hg;replace hg:=aE hg;obtain ⟨hc,hg⟩:=hg;replace hg:=eM hg;obtain ⟨y,hy,hg⟩:=hg;obtain ⟨b,off,cap,rfl,hr⟩:=hen.at (Γ:=B.Γ) hy;have hlt:i.toNat<xs.length:=(List.getElem?_eq_some_iff.1 hy).1;simp only [br,hu,hinf,oO (bh hc) hlt,if_true];rw [←beq_true hb];exact ⟨_,_,hg,hr,rfl⟩
    ·cases hg
   ·rename_i e2 e1;cases e1;cases e2
   ·rename_i e2 e1;cases e1;cases e2
   ·cases hg
  ·cases hc
 ·rename_i s x f hop
  simp only [zae] at ho;have h1:=o9 h ho.1;simp only [jc,hop] at hg;simp only [aO,hop];have hc:=ho.2;generalize dC fi T x=x' at h1;generalize bZ fi E x=gx at h1 hc hg;split at hc
  ·rename_i cs
   cases h1 with |oC a b c d=>
   unfold iX at hg;split at hg
   ·rename_i fs hu
    split at hg
    ·rename_i fd hfd
     split at hg
     ·rename_i i hi
      cases hz:Nat.beq i.size 0 with
      |true=>rw [hz] at hg;cases hg
      |false=>
       rw [hz] at hg;simp only [zab] at hg;have hne:i.size≠0:=fun e=>by rw [e] at hz;cases hz
       replace hg:=ae hg;obtain ⟨hb,hg⟩:=hg;have hl:=aB hb;simp only [cD,hu,hfd,hi,if_neg hne];refine ⟨_,_,hg,.oC a b (by simp;omega) ?_,rfl⟩;have:=d.drop fd.offset;rw [List.drop_take,zah] at this;simpa using this
     ·cases hg
    ·cases hg
   ·cases hg
  ·cases hc
 ·cases ho
theorem JY {fi:FI} {B:IE} {aZ:List Nat} {E:GE} {T:En} {o:Oper} {K:TV->GH->Option β} (h:pB fi B aZ E T) (ho:vh (bZ fi E) aZ o=true) (hg:jc dW P sh sf (bZ fi E) H o K=some r):
  (∃ t v,K t H=some r/\GR B.Γ B.Pu B.I t v/\∀ I2,(∀ b,B.Pu b->I2.get b=B.I.get b)->aO P self (dC fi T) I2 o=some (.val v I2))/\kN (bZ fi E) o=some ([],true):=by
 unfold vh at ho;split at ho
 ·rename_i t a hop
  simp only [zae] at ho;have h1:=o9 h ho.1;simp only [jc,hop] at hg;simp only [aO,hop,kN];have hc:=ho.2;generalize dC fi T a=a' at h1;generalize bZ fi E a=ga at h1 hc hg ⊢;split at hc
  ·rename_i cs
   refine ⟨?_,rfl⟩;cases h1 with |oC hpu hget hle hr=>
   rw [JR] at hg;unfold nB at hg;simp only at hg;split at hg
   ·rename_i x hx
    obtain ⟨v,hv,hrv⟩:=kc (P:=P) (t:=t) hget hle hr hx;refine ⟨_,_,hg,hrv,fun I2 hI=>?_⟩;refine BG (I:=B.I) (J:=B.I) ?_ fun b hb=>?_
    ·simp only [dy,hv]
    ·cases hb;exact hI _ hpu
   ·cases hg
  ·cases hc
 ·cases ho
theorem dk {n0 b:Nat}:∀ {l:List (Nat×bA)} {H:IH},b<n0->(au n0 l H).get b=H.get b:=by
 intro l
 induction l with
 |nil=>intro H _;rfl
 |cons p r ih=>
  intro H hb;obtain ⟨i,o⟩:=p
  show ((au n0 r H).put (n0+i) o).get b=_
  rw [IH.ah,if_neg (by omega)];exact ih hb
theorem cz {n0:Nat}:∀ {l:List (Nat×bA)} {H:IH},(au n0 l H).n=H.n:=by
 intro l
 induction l with
 |nil=>intro H;rfl
 |cons p r ih=>intro H;exact ih
structure T8 (P:Program) (hint:Hint) (sh:cA) (me:Self) (fi:FI) (B:IE) (R i:Nat) (Γ:bc) (Pu:Nat->Prop) (s:Uj) (s':DS):Prop where
 dI:aw P hint sh Γ Pu s.H (au B.I.n s'.bt s'.H)
 env:ER Γ Pu (au B.I.n s'.bt s'.H) s.E s'.T
 bt:s'.bt.map (·.1)=s.pn
 sn:Vg P hint sh B Γ Pu s.H (au B.I.n s'.bt s'.H) s.bR s'.bR
 rd:WU P hint sh me fi Γ Pu s.H (au B.I.n s'.bt s'.H) s.reads s'.reads
 old:pB fi B s.aZ s.E s'.T
 BS:Ex (bx B.Γ B.H B.I) B.Γ B.Pu B.H B.I Γ Pu s.H (au B.I.n s'.bt s'.H)
 free:∀ j,i<=j->j<R->(au B.I.n s'.bt s'.H).get (B.I.n+j)=none
 room:B.I.n+R<=s'.H.n
 po:∀ j id,(j,id)∈s.po->∃ l,Γ id=some l/\l.pos=some (B.I.n+j,0)
theorem Tc {Γ Γ1:bc} {n0:Nat} {po:List (Nat×Nat)} (h:∀ j id,(j,id)∈po->∃ l,Γ id=some l/\l.pos=some (n0+j,0)) (hg:∀ id l,Γ id=some l->Γ1 id=some l):∀ j id,(j,id)∈po->∃ l,Γ1 id=some l/\l.pos=some (n0+j,0):=fun j id hm=>by
 obtain ⟨l,h1,h2⟩:=h j id hm;exact ⟨l,hg id l h1,h2⟩
theorem Ex.hi (hs:aw P hint sh Γ Pu H I) (h:Ex (bx Γ H I) Γ Pu H I Γ1 Pu1 H1 I1):Hi Γ Pu H I Γ1 Pu1 H1 I1:=Hi.of hs h fun b hb ho=>hs.sep b ho hb
theorem zJ (hs:aw P hint sh Γ Pu H I) (h:Ex (bx Γ H I) Γ Pu H I Γ1 Pu1 H1 I1) {b:Nat} (hb:b<I.n) (hf:I.get b=none):I1.get b=none:=by
 rw [h.cI b hb fun ho=>by obtain ⟨o,ho⟩:=hs.xD ho;rw [hf] at ho;cases ho];exact hf
theorem gh {n0 b:Nat}:∀ {l:List (Nat×bA)} {H:IH},(∀ x∈l,n0+x.1≠b)->(au n0 l H).get b=H.get b:=by
 intro l
 induction l with
 |nil=>intro H _;rfl
 |cons p r ih=>
  intro H h;obtain ⟨i,o⟩:=p
  show ((au n0 r H).put (n0+i) o).get b=_
  rw [IH.ah,if_neg (fun e=>h _ List.mem_cons_self e.symm)];exact ih fun x hx=>h x (zak _ hx)
theorem nG {n0 b:Nat} {H H':IH} (h:H.get b=H'.get b):∀ {l:List (Nat×bA)},(au n0 l H).get b=(au n0 l H').get b:=by
 intro l
 induction l with
 |nil=>exact h
 |cons p r ih=>
  obtain ⟨i,o⟩:=p
  show ((au n0 r H).put (n0+i) o).get b=((au n0 r H').put (n0+i) o).get b
  rw [IH.ah,IH.ah,ih]
theorem kT {n0 b m:Nat} {H:IH}:∀ {l:List (Nat×bA)},(au n0 (l.filter fun x=> !m.testBit x.1) (au n0 (l.filter fun x=>m.testBit x.1) H)).get b=(au n0 l H).get b:=by
 intro l
 induction l with
 |nil=>rfl
 |cons p r ih=>
  obtain ⟨i,o⟩:=p;have hr:(au n0 ((i,o)::r) H).get b=if b=n0+i then some o else (au n0 r H).get b:=by
   show ((au n0 r H).put (n0+i) o).get b=_
   rw [IH.ah]
  rw [hr];cases hq:m.testBit i with
  |true=>
   simp only [List.filter_cons,hq,Bool.not_true,if_true,Bool.false_eq_true,if_false];by_cases hb:b=n0+i
   ·rw [if_pos hb,gh]
    ·show ((au n0 _ H).put (n0+i) o).get b=_
     rw [IH.ah,if_pos hb]
    ·intro x hx e
     have h2:=(List.mem_filter.1 hx).2;have:x.1=i:=by omega
     rw [this,hq] at h2;cases h2
   ·rw [if_neg hb,←ih]
    refine nG ?_
    show ((au n0 _ H).put (n0+i) o).get b=_
    rw [IH.ah,if_neg hb]
  |false=>
   simp only [List.filter_cons,hq,Bool.not_false,if_true,Bool.false_eq_true,if_false]
   show ((au n0 _ _).put (n0+i) o).get b=_
   rw [IH.ah];by_cases hb:b=n0+i
   ·rw [if_pos hb,if_pos hb]
   ·rw [if_neg hb,if_neg hb];exact ih
theorem Jv {t:TypeId} {b off:Nat} {v:Value} (h:bW P I t (.pointer (some ⟨b,off,none⟩)) v=some (.skip I1)):
  (I1=I/\∀ I2,bW P I2 t (.pointer (some ⟨b,off,none⟩)) v=some (.skip I2))∨∃ ob,I1=I.put b ob/\∀ I2:IH,I2.get b=I.get b->bW P I2 t (.pointer (some ⟨b,off,none⟩)) v=some (.skip (I2.put b ob)):=by
 unfold bW at h;simp only at h;split at h
 ·rename_i J hJ
  cases h;unfold gH at hJ;split at hJ
  ·rename_i i hi
   split at hJ
   ·rename_i hsz
    unfold IH.dF at hJ;split at hJ
    ·rename_i he
     cases hJ;exact .inl ⟨rfl,fun I2=>by simp only [bW,gH,hi,hsz,if_true,IH.dF,he]⟩
    ·rename_i he
     split at hJ
     ·rename_i cs e fz ex sh hg
      split at hJ
      ·rename_i hc
       cases hJ;refine .inr ⟨_,rfl,fun I2 h2=>?_⟩;simp only [bW,gH,hi,hsz,if_true,IH.dF,he,h2,hg];rw [if_pos hc];simp
      ·cases hJ
     ·cases hJ
   ·cases hJ
  ·cases hJ
 ·cases h
theorem aw.Wh {I2:IH} (hs:aw P hint sh Γ Pu H I) (hg:∀ b,I2.get b=I.get b) (hn:I2.n=I.n):aw P hint sh Γ Pu H I2/\Ex (bx Γ H I) Γ Pu H I Γ Pu H I2:=by
 have hkeep:cH Γ Pu I Γ Pu I2:=⟨fun _ _ h=>h,fun _ h=>h,fun b _=>hg b⟩;exact ⟨⟨fun id o ho=>by
   obtain ⟨l,hl,_⟩:=hs.obj id o ho;exact ⟨l,hl,hs.dR hkeep ho hl fun _ b _=>hg b⟩,hs.NX (fun _ _ _ b _ _ _ _ _=>hg b),(fun b h=>hs.sep b (pF (fun _ _ _ b _ _ _ _ _=>hg b) h)),hs.bj,fun b hb=>(hg b).trans (hs.fresh b (hn▸hb)),fun b hb=>by
   obtain ⟨cs,et,fz,ex,sd,h⟩:=hs.pu b hb;exact ⟨cs,et,fz,ex,sd,(hg b).trans h⟩,hn▸hs.ro,hs.gn,hs.cE,hs.st,hs.oE hkeep.p hkeep.i⟩,
  ⟨fun _ _ x=>x,zai _,Nat.le_of_eq hn.symm,fun _ x=>x,fun b _ _=>hg b,fun _ _ x=>pF (fun _ _ _ b _ _ _ _ _=>hg b) x,fun _ _ x=> .inl x,zai _,fun _ _=> .inr (.inl rfl),fun _ _ b _ _ _ _ _ _=>hg b⟩⟩
theorem Lo:∀ {l:List Nat} {H:GH},(tv l H).n=H.n/\(tv l H).ck=H.ck:=by
 intro l
 induction l with
 |nil=>intro H;exact ⟨rfl,rfl⟩
 |cons a r ih=>intro H;exact ih (H:=H.del a)
theorem tn {l:List Nat}:∀ {H:GH} {k:Nat},(tv l H).aT k=if k∈l then none else H.aT k:=by
 induction l with
 |nil=>intro H k;simp [tv]
 |cons a r ih=>
  intro H k
  show (tv r (H.del a)).aT k=_
  rw [ih,GH.eB];by_cases h1:k∈r<;>by_cases h2:k=a<;>simp [h1,h2]
theorem Bp {po:List (Nat×Nat)} {js:List Nat} (h:JV H po js=true):∀ j∈js,∃ id kt gk ge k e xs em,(j,id)∈po/\id∈jq po js/\H.get id=some (.map kt gk ge k e xs em):=by
 have key:∀ js:List Nat,∀ j∈js,∀ p,po.find? (fun p=>Nat.beq p.1 j)=some p->p.2∈jq po js:=by
  intro js
  induction js with
  |nil=>intro j hj;cases hj
  |cons a r ih=>
   intro j hj p hp;unfold jq;rcases List.mem_cons.1 hj with rfl |hj
   ·rw [hp];exact List.mem_cons_self
   ·split
    ·exact zak _ (ih j hj p hp)
    ·exact ih j hj p hp
 intro j hj;have h1:=List.all_eq_true.1 h j hj;split at h1
 ·rename_i p hp
  have h2:=List.mem_of_find?_eq_some hp;have h3:p.1=j:=beq_true (by have:=List.find?_some hp;simpa using this);unfold Rw at h1;split at h1
  ·rename_i kt gk ge k e xs em hg
   exact ⟨p.2,kt,gk,ge,k,e,xs,em,by rw [←h3];exact h2,key js j hj p hp,hg⟩
  ·cases h1
 ·cases h1
theorem CA (ok:dv P hint sh sf self) {fi:FI} {B:IE} (hsB:aw P hint sh B.Γ B.Pu B.H B.I) {ops:Array Oper} {R i m:Nat} {o:Oper} (hR:kindOf P o= .fresh->i<R) {s:Uj} {s':DS} {K:Uj->Option β} {KP:Value->GH->Option β} (h:rP dW P sh sf fi ops i o m s K KP=some r) (hi:T8 P hint sh self fi B R i Γ Pu s s'):
  (∃ s1 s1' Γ1 Pu1,K s1=some r/\dH P self fi ops B.I.n i o m s'= .done s1'/\T8 P hint sh self fi B R (i+1) Γ1 Pu1 s1 s1')∨
  (∃ w H1 Γ1 Pu1 I1,KP w H1=some r/\dH P self fi ops B.I.n i o m s'= .panic w I1/\aw P hint sh Γ1 Pu1 H1 I1/\Ex (bx B.Γ B.H B.I) B.Γ B.Pu B.H B.I Γ1 Pu1 H1 I1):=by
 unfold rP at h;unfold dH;have kB:=hi.BS.cJ hsB;have hfree:∀ j,i+1<=j->j<R->(au B.I.n s'.bt s'.H).get (B.I.n+j)=none:=fun j h1 h2=>hi.free j (by omega) h2
 rcases rZ h hi.env with ⟨hw,E2,h,he2,hG⟩ |⟨hw,E2,h,he2,hG⟩
 ·have hold:=hi.old.guard hG
  simp only [hw];split at h
  ·rename_i hk
   simp only [hk];cases hos:vj (bZ fi E2) s.aZ o with
   |true=>
    rw [hos] at h;simp only [zac] at h;obtain ⟨t,v,k1,k2,e⟩:=J3 (self:=self) hold he2 hi.dI hos h;obtain ⟨v',hv',hall⟩:=oT hk _ _ e;cases hv';simp only at hall;simp only [hall s'.H];refine .inl ⟨_,_,Γ,Pu,k1,rfl,⟨hi.dI,he2.put fi o.dst (k2.mono kB),hi.bt,hi.sn,hi.rd,hold.put k2,hi.BS,hfree,hi.room,hi.po⟩⟩
   |false=>
    rw [hos] at h;simp only [zab] at h;obtain ⟨t,H1,Γ1,Pu1,v,I1,k1,k2,k3,k4,k5⟩:=Lj hi.dI ok (bY hi.dI he2) (by rw [hk];simp) h;rcases im k2 with e |⟨e,rfl⟩
    ·obtain ⟨v',hv',hall⟩:=oT hk _ _ e
     cases hv';simp only at hall;simp only [hall s'.H];have hh:=k5.hi hi.dI;refine .inl ⟨_,_,Γ1,Pu1,k1,rfl,⟨k4,(he2.mono (k5.cJ hi.dI)).put fi o.dst k3,hi.bt,hi.sn.step hh,hi.rd.step hh,hold.aZ k3,Ex.trans hsB hi.dI hi.BS k5,hfree,hi.room,Tc hi.po k5.g⟩⟩
    ·obtain ⟨v',hv',_⟩:=oT hk _ _ e
     cases hv'
  ·rename_i hk
   simp only [hk];cases hos:vh (bZ fi E2) s.aZ o with
   |true=>
    rw [hos] at h;simp only [zac] at h;obtain ⟨⟨t,v,k1,k2,e⟩,ht⟩:=JY (self:=self) hold hos h;replace k1:=ae k1;obtain ⟨hsm,k1⟩:=k1;have hsv:=Gr hsm k2;have e1:=e s'.H fun b hb=>by rw [←dk (l:=s'.bt) (hsB.jh hb)];exact kB.i b hb
    have e2:=e (au B.I.n s'.bt s'.H) fun b hb=>kB.i b hb
    simp only [e1,Gw (self:=self) e hsv hi.sn,if_true]
    refine .inl ⟨_,_,Γ,Pu,k1,rfl,⟨hi.dI,he2.put fi o.dst (k2.mono kB),hi.bt,hi.sn,
     ⟨⟨rfl,Γ,Pu,s.H,_,E2,true,hi.dI,.refl,he2,hk,ht,rfl,e2,hsv⟩,hi.rd⟩,hold.put k2,hi.BS,hfree,hi.room,hi.po⟩⟩
   |false=>
    rw [hos] at h;simp only [zab] at h;split at h
    ·rename_i ids p ht
     replace h:=ae h;obtain ⟨hc,h⟩:=h;simp only [zae] at hc;obtain ⟨hpn,hc⟩:=hc;obtain ⟨t,H1,Γ1,Pu1,v,I1,k1,k2,k3,k4,k5⟩:=Lj hi.dI ok (bY hi.dI he2) (by rw [hk];simp) h;replace k1:=ae k1;obtain ⟨hsm,k1⟩:=k1;rcases im k2 with e |⟨e,rfl⟩
     ·have hI:=AA hk _ _ _ e
      subst hI;have hsv:=Gr hsm k3;have e1:aO P self (dC fi s'.T) s'.H o=some (.val v s'.H):=by
       rcases Bool.or_eq_true_iff.1 hpn with hq |hq
       ·have hp0:s'.bt= []:=by
         have:=hi.bt;rw [List.isEmpty_iff.1 hq] at this;exact List.map_eq_nil_iff.1 this
        rw [hp0] at e;exact e
       ·simp only [zae,Bool.not_eq_true'] at hq
        obtain ⟨hq1,hq2⟩:=hq;have:=List.isEmpty_iff.1 hq1;subst this;exact Dy (self:=self) hk ht (bY hi.dI he2) e (fun id hid=>by cases hid) (fun hp'=>by rw [hq2] at hp';cases hp')
      simp only [e1,Jl (self:=self) hk hi.dI he2 ht e hsv hi.sn hc,if_true];have hh:=k5.hi hi.dI
      refine .inl ⟨_,_,Γ1,Pu1,k1,rfl,⟨k4,(he2.mono (k5.cJ hi.dI)).put fi o.dst k3,hi.bt,hi.sn.step hh,
       ⟨⟨rfl,Γ,Pu,s.H,_,E2,p,hi.dI,hh,he2,hk,ht,rfl,e,hsv⟩,hi.rd.step hh⟩,hold.aZ k3,Ex.trans hsB hi.dI hi.BS k5,hfree,hi.room,Tc hi.po k5.g⟩⟩
     ·exact absurd e (GF hk)
    ·cases h
  ·rename_i hk
   have hiR:=hR hk;split at h
   ·rename_i t len ps hop
    simp only [jc,hop] at h;have hk0:=hi.free i (zai _) hiR;have hroN:dO<=B.I.n+i:=Nat.le_trans hsB.ro (Nat.le_add_right _ _);obtain ⟨q,H1,Γ1,Pu1,v,ob,k1,k2,k3,k4,k5⟩:=uv hi.dI hk0 (by rw [cz];have:=hi.room;omega) hroN h (HF.map (bY hi.dI he2) _);have e1:aO P self (dC fi s'.T) { s'.H with n:=B.I.n+i } o=some (.val v (({ s'.H with n:=B.I.n+i }:IH).new ob)):=by
     simp only [aO,hop];exact k2 _ rfl
    have e2:(({ s'.H with n:=B.I.n+i }:IH).new ob).get (B.I.n+i)=some ob:=by rw [IH.az];exact if_pos rfl
    simp only [hk,e1,e2];have hh:=Hi.of hi.dI k5 fun b hb ho=>by
     rcases ho with ho |rfl
     ·exact hi.dI.sep b ho hb
     ·obtain ⟨cs,et,fz,ex,sd,hg⟩:=hi.dI.pu _ hb
      rw [hk0] at hg;cases hg
    refine .inl ⟨_,_,Γ1,Pu1,k1,rfl,⟨k4,(he2.mono hh.cJ).put fi o.dst k3,?_,hi.sn.step hh,hi.rd.step hh,hold.aZ k3,Ex.lT hsB hi.BS k5 (fun b hb ho=>?_),fun j h1 h2=>?_,hi.room,Tc hi.po k5.g⟩⟩
    ·simp only [List.map_cons,hi.bt]
    ·rcases ho with ho |rfl
     ·exact hi.BS.own b hb ho
     ·omega
    ·show ((au B.I.n s'.bt s'.H).put (B.I.n+i) ob).get (B.I.n+j)=none
     rw [IH.ah,if_neg (by omega)];exact hfree j h1 h2
   ·rename_i et hop
    simp only [jc,hop] at h;have hk0:=hi.free i (zai _) hiR;have hroN:dO<=B.I.n+i:=Nat.le_trans hsB.ro (Nat.le_add_right _ _);obtain ⟨q,H1,Γ1,Pu1,v,ob,k1,k2,k3,k4,k5⟩:=MC hi.dI hk0 (by rw [cz];have:=hi.room;omega) hroN h;have e1:aO P self (dC fi s'.T) { s'.H with n:=B.I.n+i } o=some (.val v (({ s'.H with n:=B.I.n+i }:IH).new ob)):=by
     simp only [aO,hop];exact k2 _ rfl
    have e2:(({ s'.H with n:=B.I.n+i }:IH).new ob).get (B.I.n+i)=some ob:=by rw [IH.az];exact if_pos rfl
    simp only [hk,e1,e2];have hh:=Hi.of hi.dI k5 fun b hb ho=>by
     rcases ho with ho |rfl
     ·exact hi.dI.sep b ho hb
     ·obtain ⟨cs,et,fz,ex,sd,hg⟩:=hi.dI.pu _ hb
      rw [hk0] at hg;cases hg
    refine .inl ⟨_,_,Γ1,Pu1,k1,rfl,⟨k4,(he2.mono hh.cJ).put fi o.dst k3,?_,hi.sn.step hh,hi.rd.step hh,hold.aZ k3,Ex.lT hsB hi.BS k5 (fun b hb ho=>?_),fun j h1 h2=>?_,hi.room,Tc hi.po k5.g⟩⟩
    ·simp only [List.map_cons,hi.bt]
    ·rcases ho with ho |rfl
     ·exact hi.BS.own b hb ho
     ·omega
    ·show ((au B.I.n s'.bt s'.H).put (B.I.n+i) ob).get (B.I.n+j)=none
     rw [IH.ah,if_neg (by omega)];exact hfree j h1 h2
   ·rename_i t lo co hop
    simp only [jc,hop] at h;have hk0:=hi.free i (zai _) hiR;have hroN:dO<=B.I.n+i:=Nat.le_trans hsB.ro (Nat.le_add_right _ _);obtain ⟨q,H1,Γ1,Pu1,v,ob,k1,k2,k3,k4,k5⟩:=yv hi.dI hk0 (by rw [cz];have:=hi.room;omega) hroN h (bY hi.dI he2 _) (bY hi.dI he2 _) (fun he=>by
   rename_i t l c;unfold CJ at he;split at he
   ·rw [beq_true he]
   ·cases he)
    have e1:aO P self (dC fi s'.T) { s'.H with n:=B.I.n+i } o=some (.val v (({ s'.H with n:=B.I.n+i }:IH).new ob)):=by
     simp only [aO,hop];exact k2 _ rfl
    have e2:(({ s'.H with n:=B.I.n+i }:IH).new ob).get (B.I.n+i)=some ob:=by rw [IH.az];exact if_pos rfl
    simp only [hk,e1,e2];have hh:=Hi.of hi.dI k5 fun b hb ho=>by
     rcases ho with ho |rfl
     ·exact hi.dI.sep b ho hb
     ·obtain ⟨cs,et,fz,ex,sd,hg⟩:=hi.dI.pu _ hb
      rw [hk0] at hg;cases hg
    refine .inl ⟨_,_,Γ1,Pu1,k1,rfl,⟨k4,(he2.mono hh.cJ).put fi o.dst k3,?_,hi.sn.step hh,hi.rd.step hh,hold.aZ k3,Ex.lT hsB hi.BS k5 (fun b hb ho=>?_),fun j h1 h2=>?_,hi.room,Tc hi.po k5.g⟩⟩
    ·simp only [List.map_cons,hi.bt]
    ·rcases ho with ho |rfl
     ·exact hi.BS.own b hb ho
     ·omega
    ·show ((au B.I.n s'.bt s'.H).put (B.I.n+i) ob).get (B.I.n+j)=none
     rw [IH.ah,if_neg (by omega)];exact hfree j h1 h2
   ·rename_i t n hop
    simp only [jc,hop] at h;have hk0:=hi.free i (zai _) hiR;have hroN:dO<=B.I.n+i:=Nat.le_trans hsB.ro (Nat.le_add_right _ _);obtain ⟨q,H1,Γ1,Pu1,v,ob,k1,k2,k3,k4,k5,k6⟩:=BV hi.dI hk0 (by rw [cz];have:=hi.room;omega) hroN h (eh.map (bY hi.dI he2) _);have e1:aO P self (dC fi s'.T) { s'.H with n:=B.I.n+i } o=some (.val v (({ s'.H with n:=B.I.n+i }:IH).new ob)):=by
     simp only [aO,hop];exact k2 _ rfl
    have e2:(({ s'.H with n:=B.I.n+i }:IH).new ob).get (B.I.n+i)=some ob:=by rw [IH.az];exact if_pos rfl
    simp only [hk,e1,e2];have hh:=Hi.of hi.dI k5 fun b hb ho=>by
     rcases ho with ho |rfl
     ·exact hi.dI.sep b ho hb
     ·obtain ⟨cs,et,fz,ex,sd,hg⟩:=hi.dI.pu _ hb
      rw [hk0] at hg;cases hg
    refine .inl ⟨_,_,Γ1,Pu1,k1,rfl,⟨k4,(he2.mono hh.cJ).put fi o.dst k3,?_,hi.sn.step hh,hi.rd.step hh,hold.aZ k3,Ex.lT hsB hi.BS k5 (fun b hb ho=>?_),fun j h1 h2=>?_,hi.room,fun j id hm=>?_⟩⟩
    ·simp only [List.map_cons,hi.bt]
    ·rcases ho with ho |rfl
     ·exact hi.BS.own b hb ho
     ·omega
    ·show ((au B.I.n s'.bt s'.H).put (B.I.n+i) ob).get (B.I.n+j)=none
     rw [IH.ah,if_neg (by omega)];exact hfree j h1 h2
    ·rcases List.mem_cons.1 hm with hm |hm
     ·cases hm;exact k6
     ·exact Tc hi.po k5.g j id hm
   ·cases h
  ·rename_i hk
   replace h:=ae h;obtain ⟨hc,h⟩:=h;cases hall:s.pn.all (fun j=>m.testBit j) with
   |true=>
    rw [hall] at h;simp only [zac] at h;have hmem:∀ x∈s'.bt,m.testBit x.1=true:=fun x hx=>List.all_eq_true.1 hall x.1 (by rw [←hi.bt];exact List.mem_map.2 ⟨x,hx,rfl⟩)
    have f1:(s'.bt.filter fun x=>m.testBit x.1)=s'.bt:=List.filter_eq_self.2 hmem;have f2:(s'.bt.filter fun x=> !m.testBit x.1)= []:=List.filter_eq_nil_iff.2 fun x hx=>by rw [hmem x hx];exact Bool.false_ne_true
    simp only [hk,xW hi.sn hc,if_true,f1,f2];rcases xC hi.dI ok (bY hi.dI he2) h with ⟨t,H1,Γ1,Pu1,v,I1,k1,k2,k3,k4,k5⟩ |⟨_,w,H1,Γ1,Pu1,I1,k1,k2,k4,k5⟩
    case inr=>exact .inr ⟨w,H1,Γ1,Pu1,I1,k1,by simp only [k2],k4,Ex.trans hsB hi.dI hi.BS k5⟩
    simp only [wU k3] at k1;replace k1:=ae k1;obtain ⟨hr,k1⟩:=k1;have hh:=k5.hi hi.dI;have hrd:=hi.rd.step hh;have hr':=wY hrd hr;have hB1:∀ b,B.Pu b->s'.H.get b=B.I.get b:=fun b hb=>by rw [←dk (l:=s'.bt) (hsB.jh hb)];exact kB.i b hb
    have hpo:Vd P hint sh (bif s.pn.isEmpty then some s.H else none) s'.H Γ1 Pu1 H1 I1:=by
     cases hq:s.pn.isEmpty with
     |false=>trivial
     |true=>
      have hp0:s'.bt= []:=by
       have:=hi.bt;rw [List.isEmpty_iff.1 hq] at this;exact List.map_eq_nil_iff.1 this
      have hsim:=hi.dI;rw [hp0] at hsim hh;exact ⟨Γ,Pu,hsim,hh⟩
    have hroom:B.I.n+R<=I1.n:=Nat.le_trans (by rw [cz];exact hi.room) k5.n;have hf1:∀ j,i+1<=j->j<R->I1.get (B.I.n+j)=none:=fun j h1 h2=>zJ hi.dI k5 (by rw [cz];have:=hi.room;omega) (hfree j h1 h2)
    rcases im k2 with e |⟨e,rfl⟩
    ·simp only [e,hr',if_true]
     refine .inl ⟨_,_,Γ1,Pu1,k1,rfl,⟨k4,(he2.mono (k5.cJ hi.dI)).put fi o.dst k3,rfl,⟨⟨rfl,hB1,hpo⟩,hi.sn.step hh⟩,hrd,hold.aZ k3,Ex.trans hsB hi.dI hi.BS k5,hf1,hroom,Tc hi.po k5.g⟩⟩
    ·simp only [e,hr',if_true]
     refine .inl ⟨_,_,Γ1,Pu1,k1,rfl,⟨k4,(he2.mono (k5.cJ hi.dI)).put fi o.dst k3,rfl,⟨⟨rfl,hB1,hpo⟩,hi.sn.step hh⟩,hrd,hold.aZ k3,Ex.trans hsB hi.dI hi.BS k5,hf1,hroom,Tc hi.po k5.g⟩⟩
   |false=>
    rw [hall] at h;simp only [zab] at h;replace h:=ae h;obtain ⟨hlate,h⟩:=h;unfold Rf at hlate;split at hlate
    ·rename_i t a w hop
     split at hlate
     ·rename_i id off ha
      split at hlate
      ·rename_i cet ccs hg
       have hgo:=(xC hi.dI ok (bY hi.dI he2) h).resolve_right (by
        rintro ⟨_,w',_,_,_,J,_,e,_⟩;simp only [aO,hop,bW] at e;split at e
        ·split at e<;>cases e
        ·cases e)
       obtain ⟨t',H1,Γ1,Pu1,v',I1,k1,k2,k3,k4,k5⟩:=hgo;replace k1:=ae k1;obtain ⟨hr,k1⟩:=k1;replace hr:=af hr;obtain ⟨hl1,hr⟩:=hr;have hra:=bY (fi:=fi) hi.dI he2 a;rw [ha] at hra;have hra':∃ b l,Γ id=some l/\l.pos=some (b,0)/\dC fi s'.T a= .pointer (some ⟨b,off,none⟩):=by
        generalize dC fi s'.T a=q at hra;cases hra with |ptr x y=>exact ⟨_,_,x,y,rfl⟩
       obtain ⟨b,l,hl,hp,hae⟩:=hra';simp only [aO,hop,hae] at k2;have hnb:∀ x∈s'.bt.filter (fun x=> !m.testBit x.1),B.I.n+x.1≠b:=fun x hx e=>by
        have hx':x.1∈s.pn.filter (fun j=> !m.testBit j):=List.mem_filter.2 ⟨by rw [←hi.bt];exact List.mem_map.2 ⟨x,(List.mem_filter.1 hx).1,rfl⟩,(List.mem_filter.1 hx).2⟩;obtain ⟨id2,kt,gk,ge,k,e2,xs,em,q1,_,q3⟩:=Bp hlate _ hx';obtain ⟨l2,q4,q5⟩:=hi.po _ _ q1;have:=hi.dI.W6 id id2 _ _ l l2 b 0 0 hg q3 rfl rfl hl q4 hp (by rw [q5,e]);rw [this,q3] at hg;cases hg
       have hev:aq (bW P (au B.I.n s'.bt s'.H) t (.pointer (some ⟨b,off,none⟩)) (dC fi s'.T w))=some (v',I1)->bW P (au B.I.n s'.bt s'.H) t (.pointer (some ⟨b,off,none⟩)) (dC fi s'.T w)=some (.skip I1)/\v'=Go.undef:=fun q=>by
        rcases im q with e |e
        ·unfold bW at e
         simp only at e;split at e<;>cases e
        ·exact e
       obtain ⟨e,rfl⟩:=hev k2;have hIa:(au B.I.n (s'.bt.filter fun x=>m.testBit x.1) s'.H).get b=(au B.I.n s'.bt s'.H).get b:=(gh hnb).symm.trans kT;obtain ⟨Ia1,e1,hG,hnA⟩:∃ Ia1,bW P (au B.I.n (s'.bt.filter fun x=>m.testBit x.1) s'.H) t (.pointer (some ⟨b,off,none⟩)) (dC fi s'.T w)=some (.skip Ia1)/\(∀ x,(au B.I.n (s'.bt.filter fun x=> !m.testBit x.1) Ia1).get x=I1.get x)/\Ia1.n=I1.n:=by
        rcases Jv e with ⟨rfl,hall⟩ |⟨ob,rfl,hall⟩
        ·exact ⟨_,hall _,fun x=>kT,by rw [cz,cz]⟩
        ·refine ⟨_,hall _ hIa,fun x=>?_,by simp only [IH.UU,cz]⟩
         by_cases hx:x=b
         ·subst hx
          rw [gh hnb,IH.ah,IH.ah,if_pos rfl,if_pos rfl]
         ·rw [IH.ah (au B.I.n s'.bt s'.H),if_neg hx]
          exact (nG (by rw [IH.ah,if_neg hx])).trans kT
       have e1':aO P self (dC fi s'.T) (au B.I.n (s'.bt.filter fun x=>m.testBit x.1) s'.H) o=some (.skip Ia1):=by
        simp only [aO,hop,hae];exact e1
       have hn2:(au B.I.n (s'.bt.filter fun x=> !m.testBit x.1) Ia1).n=I1.n:=by rw [cz];exact hnA
       obtain ⟨s2,x2⟩:=k4.Wh hG hn2;have hh:=k5.hi hi.dI;have hh2:=x2.hi k4;have hrd:=hi.rd.step hh;have hpo1:=Tc hi.po k5.g;have late:∀ x∈s'.bt.filter (fun x=> !m.testBit x.1),∃ id2 l2,id2∈jq s.po (s.pn.filter fun j=> !m.testBit j)/\(∃ o2,H1.get id2=some o2/\o2.dh=true)/\Γ1 id2=some l2/\l2.pos=some (B.I.n+x.1,0):=fun x hx=>by
        have hx':x.1∈s.pn.filter (fun j=> !m.testBit j):=List.mem_filter.2 ⟨by rw [←hi.bt];exact List.mem_map.2 ⟨x,(List.mem_filter.1 hx).1,rfl⟩,(List.mem_filter.1 hx).2⟩;obtain ⟨id2,kt,gk,ge,k,e2,xs,em,q1,q2,q3⟩:=Bp hl1 _ hx';obtain ⟨l2,q4,q5⟩:=hpo1 _ _ q1;exact ⟨id2,l2,q2,⟨_,q3,rfl⟩,q4,q5⟩
       have hiD:Hi Γ1 Pu1 H1 I1 Γ1 Pu1 (tv (jq s.po (s.pn.filter fun j=> !m.testBit j)) H1) Ia1:=by
        have same:∀ b,(∀ x∈s'.bt.filter (fun x=> !m.testBit x.1),B.I.n+x.1≠b)->Ia1.get b=I1.get b:=fun b hb=>by rw [←hG b,gh hb]
        refine ⟨fun _ _ h=>h,fun _ h=>h,fun b hb=>same b fun x hx e=>?_,Nat.le_of_eq Lo.1.symm,Nat.le_of_eq Lo.2.symm,fun id _=>?_,fun id l b x s0 h1 h2 h3 h4=>same b fun y hy e=>?_⟩
        ·obtain ⟨id2,l2,q1,⟨o2,q2,q3⟩,q4,q5⟩:=late x hx
         exact k4.sep b (.pos q2 q3 q4 (by rw [q5,e])) hb
        ·rw [tn]
         split
         ·exact .inl rfl
         ·exact .inr (.inl rfl)
        ·obtain ⟨id2,l2,q1,⟨o2,q2,q3⟩,q4,q5⟩:=late y hy
         obtain ⟨oo,h5⟩:=GH.iv h1;obtain ⟨l',h6,h7⟩:=k4.obj id oo h5;cases h3.symm.trans h6;cases hm:oo.dh with
         |true=>
          have:=k4.W6 id id2 _ _ l l2 b x 0 h5 q2 hm q3 h3 q4 h4 (by rw [q5,e]);rw [tn,if_pos (this▸q1)] at h2;cases h2
         |false=>exact k4.sep b (.pos q2 q3 q4 (by rw [q5,e])) (h7.rest hm (.inl ⟨x,h4⟩))
       have hr':=wY (hrd.step hiD) hr;have hB1:∀ b,B.Pu b->s'.H.get b=B.I.get b:=fun b hb=>by rw [←dk (l:=s'.bt) (hsB.jh hb)];exact kB.i b hb
       have hf1:∀ j,i+1<=j->j<R->I1.get (B.I.n+j)=none:=fun j h1 h2=>zJ hi.dI k5 (by rw [cz];have:=hi.room;omega) (hfree j h1 h2)
       have hroom:B.I.n+R<=Ia1.n:=by rw [hnA];exact Nat.le_trans (by rw [cz];exact hi.room) k5.n
       have hH:=Hi.trans hi.dI hh hh2;simp only [hk,xW hi.sn hc,if_true,e1',hr'];refine .inl ⟨_,_,Γ1,Pu1,k1,rfl,⟨s2,((he2.mono (k5.cJ hi.dI)).put fi o.dst k3).mono hh2.cJ,?_,⟨⟨rfl,hB1,trivial⟩,hi.sn.step hH⟩,hi.rd.step hH,hold.aZ k3,Ex.trans hsB k4 (Ex.trans hsB hi.dI hi.BS k5) x2,fun j h1 h2=>(hG _).trans (hf1 j h1 h2),hroom,hpo1⟩⟩;rw [←hi.bt,List.filter_map];rfl
      ·cases hlate
     ·cases hlate
    ·cases hlate
 ·simp only [hw]
  exact .inl ⟨_,_,Γ,Pu,h,rfl,⟨hi.dI,he2.put fi o.dst (.raw Go.undef),hi.bt,hi.sn,hi.rd,(hi.old.guard hG).put (.raw Go.undef),hi.BS,hfree,hi.room,hi.po⟩⟩
theorem DF {fi:FI} {ops:Array Oper} {n0 c:Nat} {v:Value} {J:IH}:∀ {l:List Oper} {i:Nat} {ms:List Nat} {s':DS},mQ c l ms=true->aU P self fi ops n0 l i ms s' (some (c,v,J))= .panic v J:=by
 intro l
 induction l with
 |nil=>intro i ms s' _;cases ms<;>rfl
 |cons o r ih=>
  intro i ms s' h;cases ms with
  |nil=>cases h
  |cons m ms=>
   unfold mQ at h;replace h:=af h;simp only [aU,h.1,if_true];exact ih h.2
theorem G6 (ok:dv P hint sh sf self) {fi:FI} {B:IE} (hsB:aw P hint sh B.Γ B.Pu B.H B.I) {ops:Array Oper} {R:Nat}:∀ {l:List Oper} {i:Nat} {ms:List Nat} {s:Uj} {s':DS} {Γ:bc} {Pu:Nat->Prop} {K:Uj->Option β} {KP:Value->GH->Option β},(∀ o∈l,kindOf P o= .fresh->i+l.length<=R)->qO dW P sh sf fi ops l i ms s K KP=some r->T8 P hint sh self fi B R i Γ Pu s s'->
  (∃ s1 s1' Γ1 Pu1 i1,K s1=some r/\aU P self fi ops B.I.n l i ms s' none= .done s1'/\T8 P hint sh self fi B R i1 Γ1 Pu1 s1 s1')∨
  (∃ w H1 Γ1 Pu1 I1,KP w H1=some r/\aU P self fi ops B.I.n l i ms s' none= .panic w I1/\aw P hint sh Γ1 Pu1 H1 I1/\Ex (bx B.Γ B.H B.I) B.Γ B.Pu B.H B.I Γ1 Pu1 H1 I1):=by
 intro l
 induction l with
 |nil=>intro i ms s s' Γ Pu K KP _ h hi;exact .inl ⟨s,s',Γ,Pu,i,h,by cases ms<;>rfl,hi⟩
 |cons o rest ih=>
  intro i ms s s' Γ Pu K KP hl h hi;cases ms with
  |nil=>cases h
  |cons m ms=>
   simp only [qO] at h;rcases CA ok hsB (fun hk=>by have:=hl o (List.mem_cons_self ..) hk;simp at this;omega) h hi with ⟨s1,s1',Γ1,Pu1,k1,k2,k3⟩ |⟨w,H1,Γ1,Pu1,I1,k1,k2,k3,k4⟩
   ·have hev:aU P self fi ops B.I.n (o::rest) i (m::ms) s' none=aU P self fi ops B.I.n rest (i+1) ms s1' none:=by simp only [aU,k2]
    rw [hev];rcases ih (fun o' ho' hk=>by have:=hl o' (zak _ ho') hk;simp at this;omega) k1 k3 with ⟨s2,s2',Γ2,Pu2,i2,j1,j2,j3⟩ |h2
    ·exact .inl ⟨s2,s2',Γ2,Pu2,i2,j1,j2,j3⟩
    ·exact .inr h2
   ·replace k1:=ae k1
    refine .inr ⟨w,H1,Γ1,Pu1,I1,k1.2,?_,k3,k4⟩;simp only [aU,k2];exact DF k1.1
theorem ER.lE {fi:FI}:∀ {l:List Oper} {E:GE} {E':En},ER Γ Pu I E E'->ER Γ Pu I (Go.Gv.lE fi l E) (gf fi l E'):=by
 intro l
 induction l with
 |nil=>intro E E' h;exact h
 |cons o r ih=>intro E E' h;exact ih (h.put fi o.dst (.undef _))
theorem OC (ok:dv P hint sh sf self) {fi:FI} {ops:Array Oper} {E:GE} {E':En} {D:List Deferred} {K:GE->GH->Option β} {KP:GE->Value->GH->Option β} (h:Qx dW P sh sf fi ops E H K KP=some r) (hs:aw P hint sh Γ Pu H I) (he:ER Γ Pu I E E'):
  FT P hint sh K KP r Γ Pu H I D (lI P self fi ops E' I D):=by
 unfold Qx at h;replace h:=ae h;obtain ⟨hc,h⟩:=h;have hold:pB fi ⟨Γ,Pu,H,I⟩ [] E E':=fun t _=>by
  unfold fx fw;cases cls fi t with
  |out=>exact .undef _
  |loc=>exact (he t).1
  |tmp=>exact (he t).2
 have hget:∀ b,({ I with n:=I.n+fV P ops }:IH).get b=I.get b:=fun b=>rfl
 have hkeep:cH Γ Pu I Γ Pu { I with n:=I.n+fV P ops }:=⟨fun _ _ h=>h,fun _ h=>h,fun _ _=>rfl⟩;have hs1:aw P hint sh Γ Pu H { I with n:=I.n+fV P ops }:=⟨fun id o ho=>by
   obtain ⟨l,hl,_⟩:=hs.obj id o ho;exact ⟨l,hl,hs.dR hkeep ho hl fun _ _ _=>rfl⟩,hs.NX (fun _ _ _ _ _ _ _ _ _=>rfl),(fun b h=>hs.sep b (pF (fun _ _ _ _ _ _ _ _ _=>rfl) h)),hs.bj,fun b hb=>hs.fresh b (Nat.le_trans (Nat.le_add_right _ _) hb),hs.pu,Nat.le_trans hs.ro (Nat.le_add_right _ _),hs.gn,hs.cE,hs.st,hs.oE hkeep.p hkeep.i⟩
 have hb1:Ex (bx Γ H I) Γ Pu H I Γ Pu H { I with n:=I.n+fV P ops }:=⟨fun _ _ x=>x,zai _,Nat.le_add_right _ _,fun _ x=>x,fun _ _ _=>rfl,fun _ _ x=>pF (fun _ _ _ _ _ _ _ _ _=>rfl) x,fun _ _ x=> .inl x,zai _,fun _ _=> .inr (.inl rfl),fun _ _ _ _ _ _ _ _ _=>rfl⟩;have hres:∀ o∈ops.toList,kindOf P o= .fresh->0+ops.toList.length<=fV P ops:=fun o ho hk=>by
  unfold fV;rw [if_pos (List.any_eq_true.2 ⟨o,ho,decide_eq_true hk⟩)];simp
 rcases G6 ok (B:=⟨Γ,Pu,H,I⟩) hs (R:=fV P ops) hres h (s':=⟨E',{ I with n:=I.n+fV P ops },[],[],[]⟩)
  ⟨hs1,he.mono hkeep,rfl,trivial,trivial,hold,hb1,fun j _ _=>hs.fresh _ (Nat.le_add_right _ _),zai _,fun j id hm=>by cases hm⟩ with ⟨s1,s1',Γ1,Pu1,i1,k1,k2,k3⟩ |⟨w,H1,Γ1,Pu1,I1,k1,k2,k3,k4⟩
 ·refine .inl ⟨s1.E,s1.H,Γ1,Pu1,s1'.T,au I.n s1'.bt s1'.H,k1,?_,k3.env,k3.dI,k3.BS⟩
  simp only [lI,hc,if_true,k2]
 ·refine .inr ⟨_,w,H1,Γ1,Pu1,_,I1,k1,?_,(he.mono (k4.cJ hs)).lE,k3,k4⟩
  simp only [lI,hc,if_true,k2]
end
end Go.Gv
