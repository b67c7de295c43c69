/- The pure evaluator's regions are the ideal one's. -/
import Derived.Test.YtnddpppljnjmcaaGreatDoorGvFresh
set_option linter.unusedSimpArgs false
set_option linter.unusedVariables false
namespace Go.Gv
open Go Go.Iv
section
variable {β:Type} {P:Program} {hint:Hint} {O:Nat→Prop} {Γ Γ1:bb} {Pu Pu1:Nat→Prop} {H H1:GH} {I I1 I2:IH} {r:β} {sf:eP β} {self:Self} {sh:cr}
def Sq (fi:FI) (E:GE) (E':En) (E2:GE):Prop:=E2=E∨∃ d c,E2=cA fi d (.bool c) E∧eH fi E' d= .bool c
theorem qH {fi:FI} {ops:Array Oper} {o:Oper} {E:GE} {E':En} {run skip:GE→Option β} (h:jV dF fi ops o E run skip=some r) (he:ER Γ Pu I E E'):
  (bN fi ops E' o=some true∧∃ E2,run E2=some r∧ER Γ Pu I E2 E'∧Sq fi E E' E2)∨(bN fi ops E' o=some false∧∃ E2,skip E2=some r∧ER Γ Pu I E2 E'∧Sq fi E E' E2):=by
 unfold jV at h
 unfold bN
 split at h
 ·rename_i hg
  simp only [hg]
  exact .inl ⟨by first |rfl |trivial,E,h,he,.inl rfl⟩
 ·rename_i j want hg
  simp only [hg]
  split at h
  ·rename_i d hd
   simp only [hd]
   have hv:GR Γ Pu I (ez fi E d) (eH fi E' d):=by
    unfold ez eH
    cases cls fi d with
    |out=>exact .undef _
    |loc=>exact (he d).1
    |tmp=>exact (he d).2
   split at h
   ·rename_i b hb
    rw [hb] at hv
    have hE2:∀ c,b=c→ER Γ Pu I (cA fi d (.bool c) E) E':=fun c hc=>he.Mn d fi (by subst hc;exact hv)
    have hG:∀ c,eH fi E' d= .bool c→Sq fi E E' (cA fi d (.bool c) E):=fun c hc=> .inr ⟨d,c,rfl,hc⟩
    generalize eH fi E' d=v at hv hG
    cases hv
    rcases iB h with ⟨rfl,h⟩ |⟨rfl,h⟩
    ·cases want
     ·exact .inr ⟨rfl,_,h,hE2 true rfl,hG true rfl⟩
     ·exact .inl ⟨rfl,_,h,hE2 true rfl,hG true rfl⟩
    ·cases want
     ·exact .inl ⟨rfl,_,h,hE2 false rfl,hG false rfl⟩
     ·exact .inr ⟨rfl,_,h,hE2 false rfl,hG false rfl⟩
   ·rename_i v hb
    rw [hb] at hv
    generalize eH fi E' d=v' at hv
    cases hv
    split at h
    ·cases h
    ·cases h
    ·rename_i h1 h2
     refine .inr ⟨?_,E,h,he,.inl rfl⟩
     split
     ·exact absurd rfl (h1 _)
     ·exact absurd rfl (h2 _)
     ·rfl
   ·cases h
  ·cases h
theorem fU {o:Option aq} {v:Value} {J:IH} (h:al o=some (v,J)):o=some (.val v J)∨(o=some (.skip J)∧v=Go.undef):=by
 unfold al at h
 split at h
 ·cases h;exact .inl rfl
 ·cases h;exact .inr ⟨rfl,rfl⟩
 ·cases h
theorem P0 (ok:eR P hint sh sf self) {fi:FI} {ro:Option Nat} {ops:Array Oper}:∀ {l:List Oper} {E:GE} {E':En} {H:GH} {I:IH} {Γ:bb} {Pu:Nat→Prop} {D:List Deferred} {K:GE→GH→Option β},pW dF P sh sf fi ops l E H K=some r→ar P hint sh Γ Pu H I→ER Γ Pu I E E'→
  ∃ E1 H1 Γ1 Pu1 E1' I1,K E1 H1=some r∧eG P self fi ro ops l E' I D=some (.normal,E1',I1,D)∧ER Γ1 Pu1 I1 E1 E1'∧ar P hint sh Γ1 Pu1 H1 I1∧Ex (bM Γ H I) Γ Pu H I Γ1 Pu1 H1 I1:=by
 intro l
 induction l with
 |nil=>intro E E' H I Γ Pu D K h hs he;exact ⟨E,H,Γ,Pu,E',I,h,rfl,he,hs,Ex.refl hs⟩
 |cons o rest ih=>
  intro E E' H I Γ Pu D K h hs he
  simp only [pW] at h
  rcases qH h he with ⟨hw,E2,h,he2,_⟩ |⟨hw,E2,h,he2,_⟩
  ·obtain ⟨t,H1,Γ1,Pu1,v,I1,k1,k2,k3,k4,k5⟩:=qn hs ok (bO hs he2) h
   obtain ⟨E3,H2,Γ2,Pu2,E3',I2,j1,j2,j3,j4,j5⟩:=ih (D:=D) k1 k4 ((he2.mono (k5.cQ hs)).put fi o.dst k3)
   refine ⟨E3,H2,Γ2,Pu2,E3',I2,j1,?_,j3,j4,Ex.trans hs k4 k5 j5⟩
   rcases fU k2 with e |⟨e,rfl⟩
   ·simp only [eG,hw,e];exact j2
   ·simp only [eG,hw,e];exact j2
  ·obtain ⟨E3,H2,Γ2,Pu2,E3',I2,j1,j2,j3,j4,j5⟩:=ih (D:=D) h hs (he2.put fi o.dst (.raw Go.undef))
   refine ⟨E3,H2,Γ2,Pu2,E3',I2,j1,?_,j3,j4,j5⟩
   simp only [eG,hw];exact j2
def RM (P:Program) (o:Oper):TypeId:=match o.op with
 | .buildSlice t _ _=>match cV P t with
  |some (e,_)=>e
  |none=>0
 |_=>0
theorem Jx:∀ {cs:List TV} {bs:List UInt8} {vs:List Value},BI cs=some bs→bG Γ Pu I cs vs→vs=bs.map fun c=>(.int .u8 c.toNat:Value):=by
 intro cs
 induction cs with
 |nil=>intro bs vs h hr;cases h;cases hr;rfl
 |cons c r ih=>
  intro bs vs h hr
  unfold BI at h
  split at h
  ·rename_i heq;cases heq
  ·rename_i c' r' heq
   cases heq
   split at h
   ·rename_i l hl
    cases h
    cases hr with |cons a b=>
    cases a
    rw [ih hl b];rfl
   ·cases h
  ·cases h
theorem Om {fi:FI} {ops:Array Oper} {E:GE} {E':En} {o o2:Oper} {d d2:Tmp} {bs:List UInt8} (hs:ar P hint sh Γ Pu H I) (he:ER Γ Pu I E E') (h:Nu P fi E o o2=some (d,d2,bs)):
  ∃ v J,aJ P self (dO fi E') I o=some (.val v J)∧aJ P self (dO fi (cU fi E' (some d) v)) J o2=some (.val v (I.new (.cells (bs.map fun c=> .int .u8 c.toNat) (RM P o) 0 true true)))∧
   o.dst=some d∧o2.dst=some d2∧o.guard=none∧o2.guard=none∧
   GR Γ (fun b=>Pu b∨b=I.n) (I.new (.cells (bs.map fun c=> .int .u8 c.toNat) (RM P o) 0 true true)) (.aC .byte bs (some false) false) v:=by
 unfold Nu at h
 split at h
 ·rename_i t len parts src dst d' d0 d20 ho ho2 hd hd2 hg hg2
  replace h:=ad h;obtain ⟨hb,h⟩:=h
  replace hb:=Go.Gv.and_true hb;obtain ⟨hb,hb4⟩:=hb
  replace hb:=Go.Gv.and_true hb;obtain ⟨hb,hb3⟩:=hb
  replace hb:=Go.Gv.and_true hb;obtain ⟨hb1,hb2⟩:=hb
  have e1:=beq_true hb1;have e2:=beq_true hb2;have e3:=beq_true hb3
  have e4:d0<fi.nt:=by simpa using hb4
  split at h
  ·rename_i e0 e i hu hes
   split at h
   ·rename_i z hue hz
    replace h:=ad h;obtain ⟨hb,h⟩:=h
    replace hb:=Go.Gv.and_true hb;obtain ⟨hb,hc5⟩:=hb
    replace hb:=Go.Gv.and_true hb;obtain ⟨hb,hc4⟩:=hb
    replace hb:=Go.Gv.and_true hb;obtain ⟨hb,hc3⟩:=hb
    replace hb:=Go.Gv.and_true hb;obtain ⟨hc1,hc2⟩:=hb
    split at h
    ·rename_i cells hf
     obtain ⟨vs',hf',hr'⟩:=kC (vs:=⟨dL z.cells.toList len⟩) hf hc2 (Fu.map (bO hs he) parts.toList) (BD (dR hc4) len)
     split at h
     ·rename_i bs0 hbs
      replace h:=ad h;obtain ⟨hlen,h⟩:=h
      cases h
      have hvs:=Jx hbs hr'
      have hl:=beq_true hlen
      subst e1 e2 e3
      have elt:RM P o=e:=by unfold RM;rw [ho];simp only [hes]
      have hlu:len<fC:=by
       have:=aQ hc1
       have h2:len≤len*(i.size+1):=Nat.le_mul_of_pos_right _ (by omega)
       unfold fC
       have:(2:Nat)^24<2^64:=by decide
       omega
      refine ⟨.slice (some ⟨I.n,0,none⟩) len len,bR I e vs'.toList,?_,?_,hd,hd2,hg,hg2,?_⟩
      ·unfold aJ
       simp only [ho,bc,hes,hz]
       rw [if_pos (by simp [(Fu.map (bO hs he) parts.toList).ok hc2];exact aQ hc1),if_pos (beq_true hc3),hf']
      ·rw [elt]
       unfold aJ
       simp only [ho2]
       have hop:dO fi (cU fi E' (some d) (.slice (some ⟨I.n,0,none⟩) len len)) (.tmp d)= .slice (some ⟨I.n,0,none⟩) len len:=by
        show eH fi (se fi d _ E') d=_
        rw [oJ,if_pos ⟨rfl,e4⟩]
       rw [hop]
       simp only [aS,hu,fL,beq_self_eq_true,if_true,hue]
       have hgn:(bR I e vs'.toList).get I.n=some (.cells vs'.toList e 0 true false):=by unfold bR;rw [IH.aw,if_pos rfl]
       rw [hgn]
       simp only [beq_self_eq_true,Bool.or_false,Bool.and_true,hs.ro,decide_true,if_true]
       have:(bR I e vs'.toList).put I.n (.cells vs'.toList e 0 true true)=I.new (.cells vs'.toList e 0 true true):=IH.Io _ _ _
       rw [this,hvs]
      ·rw [elt]
       refine .aC ?_ (fun c hc=>by cases hc;rfl) (fun hc=>by cases hc)
       refine .inr (.inl ⟨I.n,0,len,_,e,0,true,true,by rw [←hl],.inr rfl,by rw [IH.aw,if_pos rfl],.inr ⟨hlu,by omega,?_⟩,?_,?_⟩)
       ·simp [Sh.sz,hl]
       ·simp [Sh.sz]
       ·exact qJ
     ·cases h
    ·cases h
   ·cases h
  ·cases h
 ·cases h
theorem No (ok:eR P hint sh sf self) {fi:FI} {ro:Option Nat} {ops:Array Oper}:∀ (n:Nat) {l:List Oper} {E:GE} {E':En} {H:GH} {I:IH} {Γ:bb} {Pu:Nat→Prop} {D:List Deferred} {K:GE→GH→Option β},l.length≤n→ue dF P sh sf fi ops l E H K=some r→ar P hint sh Γ Pu H I→ER Γ Pu I E E'→
  ∃ E1 H1 Γ1 Pu1 E1' I1,K E1 H1=some r∧eG P self fi ro ops l E' I D=some (.normal,E1',I1,D)∧ER Γ1 Pu1 I1 E1 E1'∧ar P hint sh Γ1 Pu1 H1 I1∧Ex (bM Γ H I) Γ Pu H I Γ1 Pu1 H1 I1:=by
 intro n
 induction n with
 |zero=>
  intro l E E' H I Γ Pu D K hn h hs he
  cases l with
  |nil=>exact ⟨E,H,Γ,Pu,E',I,h,rfl,he,hs,Ex.refl hs⟩
  |cons=>exact absurd hn (by simp)
 |succ n ih=>
  intro l E E' H I Γ Pu D K hn h hs he
  have step:∀ {o:Oper} {rest:List Oper} {K2:GE→GH→Option β},rest.length≤n→
    (∀ E H,K2 E H=some r→∀ {E' I Γ Pu},ar P hint sh Γ Pu H I→ER Γ Pu I E E'→∃ E1 H1 Γ1 Pu1 E1' I1,K E1 H1=some r∧eG P self fi ro ops rest E' I D=some (.normal,E1',I1,D)∧ER Γ1 Pu1 I1 E1 E1'∧ar P hint sh Γ1 Pu1 H1 I1∧Ex (bM Γ H I) Γ Pu H I Γ1 Pu1 H1 I1)→
    jV dF fi ops o E (fun E=>gP dF P sh sf (dd fi E) H o fun v H=>K2 (cJ fi E o.dst v) H) (fun E=>K2 (cJ fi E o.dst (.raw Go.undef)) H)=some r→
    ∃ E1 H1 Γ1 Pu1 E1' I1,K E1 H1=some r∧eG P self fi ro ops (o::rest) E' I D=some (.normal,E1',I1,D)∧ER Γ1 Pu1 I1 E1 E1'∧ar P hint sh Γ1 Pu1 H1 I1∧Ex (bM Γ H I) Γ Pu H I Γ1 Pu1 H1 I1:=by
   intro o rest K2 hr hk h
   rcases qH h he with ⟨hw,E2,h,he2,_⟩ |⟨hw,E2,h,he2,_⟩
   ·obtain ⟨t,H1,Γ1,Pu1,v,I1,k1,k2,k3,k4,k5⟩:=qn hs ok (bO hs he2) h
    obtain ⟨E3,H2,Γ2,Pu2,E3',I2,j1,j2,j3,j4,j5⟩:=hk _ _ k1 k4 ((he2.mono (k5.cQ hs)).put fi o.dst k3)
    refine ⟨E3,H2,Γ2,Pu2,E3',I2,j1,?_,j3,j4,Ex.trans hs k4 k5 j5⟩
    rcases fU k2 with e |⟨e,rfl⟩
    ·simp only [eG,hw,e];exact j2
    ·simp only [eG,hw,e];exact j2
   ·obtain ⟨E3,H2,Γ2,Pu2,E3',I2,j1,j2,j3,j4,j5⟩:=hk _ _ h hs (he2.put fi o.dst (.raw Go.undef))
    refine ⟨E3,H2,Γ2,Pu2,E3',I2,j1,?_,j3,j4,j5⟩
    simp only [eG,hw];exact j2
  match l,hn,h with
  | [],hn,h=>exact ⟨E,H,Γ,Pu,E',I,h,rfl,he,hs,Ex.refl hs⟩
  | [o],hn,h=>
   exact step (K2:=K) (rest:= []) (Nat.zero_le _) (fun E H hk {E' I Γ Pu} hs he=>⟨E,H,Γ,Pu,E',I,hk,rfl,he,hs,Ex.refl hs⟩) h
  |o::o2::rest,hn,h=>
   simp only [ue] at h
   split at h
   ·rename_i d d2 bs hp
    obtain ⟨v,J,a1,a2,a3,a4,a5,a6,a7⟩:=Om (self:=self) (ops:=ops) hs he hp
    obtain ⟨s1,x1⟩:=hs.HX (bs.map fun c=> .int .u8 c.toNat) (RM P o) 0 true true
    have he1:=((he.mono (x1.cQ hs)).put fi (some d) a7).put fi (some d2) a7
    obtain ⟨E3,H2,Γ2,Pu2,E3',I2,j1,j2,j3,j4,j5⟩:=ih (l:=rest) (D:=D) (by simp at hn;omega) h s1 he1
    refine ⟨E3,H2,Γ2,Pu2,E3',I2,j1,?_,j3,j4,Ex.trans hs s1 x1 j5⟩
    have w1:bN fi ops E' o=some true:=by unfold bN;rw [a5]
    have w2:bN fi ops (cU fi E' (some d) v) o2=some true:=by unfold bN;rw [a6]
    simp only [eG,w1,a1,a3,w2,a2,a4]
    exact j2
   ·exact step (K2:=fun E H=>ue dF P sh sf fi ops (o2::rest) E H K) (rest:=o2::rest) (by simp at hn ⊢;omega) (fun E H hk {E' I Γ Pu} hs he=>ih (by simp at hn ⊢;omega) hk hs he) h
def Qq:Value→Option Nat
 | .pointer (some a)=>some a.block
 | .slice (some a) _ _=>some a.block
 |_=>none
theorem yp {t:TypeId} {a v:Value} {J:IH} (h:eg P I t a=some (.val v J)) (hb:∀ b,Qq a=some b→I2.get b=I.get b):eg P I2 t a=some (.val v I2):=by
 unfold eg at h ⊢
 split at h
 ·rename_i b off
  have hg:=hb b rfl
  have e:mX P I2 t b off=mX P I t b off:=by simp only [mX,IH.bt,hg]
  rw [e]
  split at h
  ·rename_i v' hv
   cases h
   rfl
  ·cases h
 ·cases h
def Tp:Value→Bool
 | .slice _ l _=>l !=0
 |_=>true
theorem A8 {src dst:TypeId} {a v:Value} {J:IH} (h1:∀ e,¬ (P.underlying src=some .string∧P.underlying dst=some (.slice e))) (h2:∀ e e',¬ (P.underlying src=some (.slice e)∧P.underlying dst=some (.slice e')))
  (h:aS P I src dst a=some (.val v J)) (hb:∀ b,Qq a=some b→Tp a=true→I2.get b=I.get b):aS P I2 src dst a=some (.val v I2):=by
 unfold aS at h ⊢
 split at h
 ·split at h
  ·cases h;rfl
  ·cases h
 ·split at h
  ·cases h;rfl
  ·cases h
 ·split at h
  ·cases h;rfl
  ·cases h
 ·rename_i hs hd
  exact absurd ⟨hs,hd⟩ (h1 _)
 ·rename_i hs hd
  exact absurd ⟨hs,hd⟩ (h2 _ _)
 ·unfold cB at h ⊢
  split at h
  ·cases h;rfl
  ·rename_i b off len c hu
   split at h
   ·rename_i hl
    cases h
    rw [if_pos hl]
   ·rename_i hl
    have hg:=hb b rfl (by simp [Tp,hl])
    have e:I2.bt b off len=I.bt b off len:=by simp only [IH.bt,hg]
    rw [if_neg hl,e]
    split at h
    ·rename_i cs hcs
     split at h
     ·rename_i bs hbs
      cases h
      rfl
     ·cases h
    ·cases h
  ·cases h
 ·unfold da at h ⊢
  split at h
  ·cases h;rfl
  ·rename_i b off
   have hg:=hb b rfl rfl
   rw [hg]
   split at h
   ·rename_i cs e f ex sd hc
    split at h
    ·rename_i hq
     cases h
     rw [if_pos hq]
    ·cases h
   ·cases h
  ·cases h
 ·unfold cg at h ⊢
  split at h
  ·cases h;rfl
  ·rename_i b off
   have hg:=hb b rfl rfl
   rw [hg]
   split at h
   ·rename_i cs e f ex sd hc
    split at h
    ·rename_i hq
     cases h
     rw [if_pos hq]
    ·cases h
   ·cases h
  ·cases h
 ·cases h
def uj:Value→Bool
 | .int _ _ | .string _ | .bool _ | .agg _=>true
 |_=>false
theorem HG {t:TypeId} {a b:Value} (ha:uj a=true) (hb:uj b=true):dN P I2 t a b=dN P I t a b:=by
 cases a<;>first |(cases ha;done) |skip
 all_goals cases b<;>first |(cases hb;done) |skip
 all_goals
  unfold dN
  cases P.underlying t with
  |none=>rfl
  |some d=>cases d<;>rfl
theorem Oi {op:BinOp} {t:TypeId} {x y:Operand} {a b v:Value} {J:IH} (ha:uj a=true) (hb:uj b=true) (h:aY P I op t x y a b=some (.val v J)):aY P I2 op t x y a b=some (.val v I2):=by
 have heq:∀ neg,bY P I neg t x y a b=some (.val v J)→bY P I2 neg t x y a b=some (.val v I2):=by
  intro neg h
  have e:=HG (P:=P) (I:=I) (I2:=I2) (t:=t) ha hb
  simp only [bY] at h ⊢
  split at h
  ·split at h
   ·rename_i hk;cases h;rw [if_pos hk]
   ·cases h
  ·cases h;rfl
  ·simp only [e]
   split at h
   ·cases h;rfl
   ·split at h
    ·rename_i hf
     rw [if_pos hf]
     split at h
     ·split at h
      ·rename_i hk;cases h;rw [if_pos hk]
      ·cases h
     ·cases h
    ·cases h
 simp only [aY] at h ⊢
 split at h
 ·exact heq _ h
 ·exact heq _ h
 all_goals
  cases a<;>first |(cases ha;done) |skip
  all_goals cases b<;>first |(cases hb;done) |skip
  all_goals simp only [reduceCtorEq] at h ⊢
  all_goals first
   |done
   |(cases h;rfl)
   |(
     split at h
     ·first
      |(rename_i hk;cases h;rw [if_pos hk];done)
      |(
       split at h
       ·first
        |(rename_i hk;cases h;rw [if_pos hk];done)
        |(
          split at h
          ·rename_i hk;cases h;rw [if_pos hk]
          ·cases h)
       ·cases h)
     ·cases h)
theorem zR {t:TV} {v:Value} (h:G0 t=true) (hr:GR Γ Pu I t v):uj v=true:=by
 cases hr<;>first |rfl |(cases h)
theorem FB {o:Option Value} {v:Value} {J:IH} (h:Iv.valOf I o=some (.val v J)):Iv.valOf I2 o=some (.val v I2):=by
 unfold Iv.valOf at h ⊢
 split at h
 ·cases h;rfl
 ·cases h
theorem lZ {s:Sem Value} {v:Value} {J:IH} (h:bZ P I s=some (.val v J)):bZ P I2 s=some (.val v I2):=by
 unfold bZ at h ⊢
 split at h
 ·split at h
  ·rename_i hk;cases h;rw [if_pos hk]
  ·cases h
 ·cases h
theorem Ms {t:TypeId} {x:Value} (hx:(∃ s,x= .string s)∨(∃ a l c,x= .slice a l c)∨x= .map none∨∃ b,x= .map (some b)∧I2.get b=I.get b):fj P I2 t x=fj P I t x:=by
 unfold fj
 rcases hx with ⟨s,rfl⟩ |⟨a,l,c,rfl⟩ |rfl |⟨b,rfl,hb⟩
 ·cases P.underlying t with
  |none=>rfl
  |some d=>cases d<;>rfl
 ·cases P.underlying t with
  |none=>rfl
  |some d=>cases d<;>rfl
 ·cases P.underlying t with
  |none=>rfl
  |some d=>cases d<;>rfl
 ·cases P.underlying t with
  |none=>rfl
  |some d=>cases d<;>simp only [hb]
theorem E7 {t:TypeId} {x k:Value} {ok:Bool} {v:Value} {J:IH} (h:bH P I t x k ok=some (.val v J)) (hb:∀ b,x= .map (some b)→I2.get b=I.get b):bH P I2 t x k ok=some (.val v I2):=by
 unfold bH at h ⊢
 split at h
 ·simp only [hb _ rfl]
  split at h
  ·rename_i es ck hg
   split at h
   ·rename_i hk
    rw [if_pos hk]
    split at h
    ·cases h;rfl
    ·split at h
     ·cases h;rfl
     ·cases h
    ·cases h
   ·cases h
  ·cases h
 ·split at h
  ·rename_i hk
   rw [if_pos hk]
   split at h
   ·cases h;rfl
   ·cases h
  ·cases h
 ·cases h
theorem bL.AF {e:Sh} {xs:List e.ty} {v:Value} (h:bL Pu I (.bQ e) xs [v]):v= .slice none 0 0∨∃ b off len cap,v= .slice (some ⟨b,off,none⟩) len cap∧(Pu b∨len=0):=by
 unfold bL at h
 rcases h with ⟨_,h⟩ |⟨b,off,cap,cs,et,fz,ex,sd,h,hb,_⟩ |⟨_,b,h⟩
 ·cases h;exact .inl rfl
 ·cases h;exact .inr ⟨b,off,_,cap,rfl,.inl hb⟩
 ·cases h;exact .inr ⟨b,0,0,0,rfl,.inr rfl⟩
theorem ld {l:Loc} {off len:Nat} {v:Value} (h:eU l off len v):v= .slice none 0 0∨∃ b o o' n cap,v= .slice (some ⟨b,o,none⟩) n cap∧l.pos=some (b,o'):=by
 unfold eU at h
 split at h
 ·exact .inl h.1
 ·rename_i b o hp
  obtain ⟨cap,rfl,_⟩:=h
  exact .inr ⟨b,_,o,_,cap,rfl,hp⟩
theorem AN {ρ:Operand→TV} {ρ':Operand→Value} {o:Oper} {ids:List Nat} {p:Bool} {v:Value} {J:IH} (hk:kindOf P o= .read) (ht:jj ρ o=some (ids,p)) (hρ:∀ x,GR Γ Pu I (ρ x) (ρ' x)) (h:aJ P self ρ' I o=some (.val v J))
  (h1:∀ id∈ids,∀ l b x,Γ id=some l→l.pos=some (b,x)→I2.get b=I.get b) (h2:p=true→∀ b,Pu b→I2.get b=I.get b):aJ P self ρ' I2 o=some (.val v I2):=by
 unfold jj at ht
 split at ht
 ·rename_i t a ho
  simp only [aJ,ho] at h ⊢
  have hv:=hρ a
  generalize ρ' a=w at hv h
  generalize ρ a=q at ht hv
  refine yp h fun b hb=>?_
  split at ht
  ·cases ht
   cases hv with |ptr hl hp=>cases hb;exact h1 _ (List.mem_cons_self ..) _ _ _ hl hp
  ·cases ht
   cases hv with |ly hl hp=>cases hb;exact h1 _ (List.mem_cons_self ..) _ _ _ hl hp
  ·cases ht
   cases hv with |my hb' _ _ _=>cases hb;exact h2 rfl _ hb'
  ·cases ht
 ·rename_i op t x y yt ho
  simp only [aJ,ho] at h ⊢
  replace ht:=ad ht
  obtain ⟨hc,ht⟩:=ht
  simp only [Bool.and_eq_true] at hc
  exact Oi (zR hc.1 (hρ x)) (zR hc.2 (hρ y)) h
 ·rename_i t x k ok ho
  simp only [aJ,ho] at h ⊢
  have hv:=hρ x
  generalize ρ' x=w at hv h
  generalize ρ x=q at ht hv
  refine E7 h fun b hb=>?_
  split at ht
  ·cases ht
   cases hv with |mp hl hm=>
   unfold Li at hm
   split at hm
   ·subst hm;cases hb
   ·rename_i b' x' hp
    subst hm;cases hb
    exact h1 _ (List.mem_cons_self ..) _ _ _ hl hp
  ·cases ht;cases hv;cases hb
  ·cases ht
 ·rename_i c ho
  obtain ⟨callee,args,ats⟩:=c
  simp only at ht
  split at ht
  ·split at ht
   ·rename_i x hx
    simp only [aJ,ho,dh,hx,List.map_cons,List.map_nil,bg] at h ⊢
    have hv:=hρ x
    generalize ρ' x=w at hv h
    generalize ρ x=q at ht hv
    have hx:(∃ s,w= .string s)∨(∃ a l c,w= .slice a l c)∨w= .map none∨∃ b,w= .map (some b)∧I2.get b=I.get b:=by
     split at ht
     ·cases hv;exact .inl ⟨_,rfl⟩
     ·cases hv with |aC he _ _=>rcases he.AF with h |⟨_,_,_,_,h,_⟩<;>exact .inr (.inl ⟨_,_,_,h⟩)
     ·cases hv with |all _ he=>rcases ld he with h |⟨_,_,_,_,_,h,_⟩<;>exact .inr (.inl ⟨_,_,_,h⟩)
     ·cases hv with |own _ _ he=>rcases ld he with h |⟨_,_,_,_,_,h,_⟩<;>exact .inr (.inl ⟨_,_,_,h⟩)
     ·cases hv;exact .inr (.inl ⟨_,_,_,rfl⟩)
     ·cases hv with |mp hl hm=>
      cases ht
      unfold Li at hm
      split at hm
      ·exact .inr (.inr (.inl hm))
      ·rename_i b _ hp
       exact .inr (.inr (.inr ⟨b,hm,h1 _ (List.mem_cons_self ..) _ _ _ hl hp⟩))
     ·cases ht
    split at h
    ·rename_i t hat
     simp only [Ms (P:=P) (I:=I) (I2:=I2) hx]
     exact FB h
    ·cases h
   ·cases ht
  ·simp only [aJ,ho,dh,bg] at h ⊢
   split at h
   ·rename_i hf
    rw [if_pos hf]
    exact lZ h
   ·cases h
  ·simp only [aJ,ho,dh,bg] at h ⊢
   split at h
   ·rename_i hf
    rw [if_pos hf]
    exact lZ h
   ·cases h
  ·simp only [aJ,ho,dh] at h ⊢
   generalize args.toList.map ρ'=l at h ⊢
   unfold bg at h ⊢
   cases l with
   |nil=>simp at h
   |cons a r=>
    cases r with
    |cons b r=>simp at h
    |nil=>
     cases a with
     |slice q n k=>
      cases q with
      |none=>cases h;rfl
      |some q=>
       simp only at h ⊢
       split at h
       ·cases h
       ·rename_i hn;rw [if_neg hn];cases h;rfl
     |_=>simp at h
  ·cases ht
 ·rename_i src dst x ho
  simp only [aJ,ho] at h ⊢
  have hv:=hρ x
  generalize ρ' x=w at hv h
  generalize ρ x=q at ht hv
  refine A8 (fun e he=>?_) (fun e e' he=>?_) h fun b hb hnz=>?_
  ·simp only [kindOf,ho,he.1,he.2] at hk;cases hk
  ·simp only [kindOf,ho,he.1,he.2] at hk;cases hk
  ·split at ht
   ·cases ht
    cases hv with |all hl he=>
    rcases ld he with rfl |⟨_,_,_,_,_,rfl,hp⟩
    ·cases hb
    ·cases hb;exact h1 _ (List.mem_cons_self ..) _ _ _ hl hp
   ·cases ht
    cases hv with |own hl _ he=>
    rcases ld he with rfl |⟨_,_,_,_,_,rfl,hp⟩
    ·cases hb
    ·cases hb;exact h1 _ (List.mem_cons_self ..) _ _ _ hl hp
   ·cases hv;cases hb
   ·cases hv;cases hb
   ·cases hv;cases hb
   ·cases ht
    cases hv with |aC he _ _=>
    rcases he.AF with rfl |⟨_,_,_,_,rfl,hp⟩
    ·cases hb
    ·cases hb
     rcases hp with hp |rfl
     ·exact h2 rfl _ hp
     ·cases hnz
   ·cases ht
 ·cases ht
theorem zD {t:TV} {v:Value} (h:kq t=true) (hr:GR Γ Pu I t v):jD v v=true:=by
 cases hr with
 |aC he _ _=>rcases he.AF with rfl |⟨_,_,_,_,rfl,_⟩<;>simp [jD]
 |all _ he=>rcases ld he with rfl |⟨_,_,_,_,_,rfl,_⟩<;>simp [jD]
 |own _ _ he=>rcases ld he with rfl |⟨_,_,_,_,_,rfl,_⟩<;>simp [jD]
 |raw v=>unfold kq at h;simp only at h;split at h<;>first |(simp [jD];done) |cases h
 |agg |jI |fn |pA |undef=>cases h
 |mp _ he=>obtain ⟨q,rfl⟩:=he.map;simp [jD]
 |_=>simp [jD]
theorem nF {cs:List TV} {vs:List Value} (h:cs.all kq=true) (hr:bG Γ Pu I cs vs):kz vs vs=true:=by
 induction cs generalizing vs with
 |nil=>cases hr;rfl
 |cons c r ih=>
  cases hr with |cons a b=>
  simp only [List.all_cons,Bool.and_eq_true] at h
  simp only [kz,zD h.1 a,ih h.2 b,Bool.and_self]
theorem JB {v:Value} (h:jD v v=true):kF v v=true:=by
 cases v<;>first |exact h |cases h
theorem EC {t:TV} {v:Value} (h:Ik t=true) (hr:GR Γ Pu I t v):kF v v=true:=by
 unfold Ik at h
 split at h
 ·cases hr with |agg hs=>exact nF h hs
 ·cases hr with |jI hs=>exact nF h hs
 ·cases hr with |fn ha hc=>
  simp only [Bool.and_eq_true] at h
  simp only [kF,beq_self_eq_true,Bool.true_and]
  rw [nF h.1 ha,nF h.2 hc];rfl
 ·exact JB (zD h hr)
theorem Ep {ρ':Operand→Value} {o:Oper} {J:IH} (hk:kindOf P o= .read):aJ P self ρ' I o≠some (.skip J):=by
 intro h
 cases ho:o.op with
 |load t a=>
  simp only [aJ,ho,eg] at h
  repeat' split at h
  all_goals cases h
 |lookup t x k ok=>
  simp only [aJ,ho,bH] at h
  repeat' split at h
  all_goals cases h
 |binOp op t x y yt=>
  simp only [aJ,ho,aY,bY] at h
  repeat' split at h
  all_goals cases h
 |convert src dst x=>
  simp only [aJ,ho,aS,cB,da,cg,eu] at h
  split at h
  all_goals first
   |(exfalso;rename_i e1 e2;simp only [kindOf,ho,e1,e2] at hk;cases hk;done)
   |(
     repeat' split at h
     all_goals cases h)
 |call c=>
  obtain ⟨callee,args,ats⟩:=c
  cases callee with
  |builtin b=>
   simp only [aJ,ho,dh] at h
   unfold bg at h
   split at h
   all_goals first
    |(simp [kindOf,ho] at hk;done)
    |(
      simp only [bZ,Iv.valOf] at h
      repeat' split at h
      all_goals cases h)
    |(
      repeat' split at h
      all_goals cases h)
  |value f=>simp [kindOf,ho] at hk
  |invoke r n=>simp [kindOf,ho] at hk
 |_=>simp [kindOf,ho] at hk
structure FV where
 Γ:bb
 Pu:Nat→Prop
 H:GH
 I:IH
structure Hi (Γ:bb) (Pu:Nat→Prop) (H:GH) (I:IH) (Γ1:bb) (Pu1:Nat→Prop) (H1:GH) (I1:IH):Prop where
 g:∀ id l,Γ id=some l→Γ1 id=some l
 p:∀ b,Pu b→Pu1 b
 i:∀ b,Pu b→I1.get b=I.get b
 hn:H.n≤H1.n
 ck:H.ck≤H1.ck
 Av:∀ id,id<H.n→H1.bh id=none∨H1.bh id=H.bh id∨∃ s,H1.bh id=some s∧H.ck≤s
 jK:∀ id l b x s,H.bh id=some s→H1.bh id=some s→Γ id=some l→l.pos=some (b,x)→I1.get b=I.get b
theorem Hi.refl:Hi Γ Pu H I Γ Pu H I:=⟨fun _ _ h=>h,fun _ h=>h,fun _ _=>rfl,Nat.le_refl _,Nat.le_refl _,fun _ _=> .inr (.inl rfl),fun _ _ _ _ _ _ _ _ _=>rfl⟩
theorem Hi.of {O:Nat→Prop} (hs:ar P hint sh Γ Pu H I) (h:Ex O Γ Pu H I Γ1 Pu1 H1 I1) (ho:∀ b,Pu b→¬ O b):Hi Γ Pu H I Γ1 Pu1 H1 I1:=
 ⟨h.g,h.p,fun b hb=>h.dj b (hs.jx hb) (ho b hb),h.hn,h.ck,h.Av,h.jK⟩
theorem Hi.trans {Γ2:bb} {Pu2:Nat→Prop} {H2:GH} (hs:ar P hint sh Γ Pu H I) (h:Hi Γ Pu H I Γ1 Pu1 H1 I1) (k:Hi Γ1 Pu1 H1 I1 Γ2 Pu2 H2 I2):Hi Γ Pu H I Γ2 Pu2 H2 I2 where
 g:=fun id l x=>k.g id l (h.g id l x)
 p:=fun b x=>k.p b (h.p b x)
 i:=fun b hb=>(k.i b (h.p b hb)).trans (h.i b hb)
 hn:=Nat.le_trans h.hn k.hn
 ck:=Nat.le_trans h.ck k.ck
 Av:=fun id hid=>by
  rcases k.Av id (Nat.lt_of_lt_of_le hid h.hn) with x |x |⟨s,x,y⟩
  ·exact .inl x
  ·rw [x];exact h.Av id hid
  ·exact .inr (.inr ⟨s,x,Nat.le_trans h.ck y⟩)
 jK:=fun id l b x s hs0 hs2 hl hp=>by
  have hid:=hs.aW id l hl
  have hlt:=hs.st id s hs0
  rcases k.Av id (Nat.lt_of_lt_of_le hid h.hn) with y |y |⟨s',y,z⟩
  ·rw [y] at hs2;cases hs2
  ·rw [y] at hs2
   exact (k.jK id l b x s hs2 (y.trans hs2) (h.g id l hl) hp).trans (h.jK id l b x s hs0 hs2 hl hp)
  ·rw [y] at hs2;cases hs2
   have:=h.ck
   omega
theorem Hi.cQ (h:Hi Γ Pu H I Γ1 Pu1 H1 I1):cy Γ Pu I Γ1 Pu1 I1:=⟨h.g,h.p,h.i⟩
def Mu (P:Program) (hint:Hint) (sh:cr) (H0:GH) (I0:IH) (Γ:bb) (Pu:Nat→Prop) (H:GH) (I:IH):Prop:=
 ∃ Γ0 Pu0,ar P hint sh Γ0 Pu0 H0 I0∧Hi Γ0 Pu0 H0 I0 Γ Pu H I
theorem Mu.step {H0:GH} {I0:IH} (h:Mu P hint sh H0 I0 Γ Pu H I) (e:Hi Γ Pu H I Γ1 Pu1 H1 I1):Mu P hint sh H0 I0 Γ1 Pu1 H1 I1:=by
 obtain ⟨Γ0,Pu0,s0,e0⟩:=h
 exact ⟨Γ0,Pu0,s0,Hi.trans s0 e0 e⟩
theorem yx {f g:Nat→Option Nat} {ids:List Nat} (h:wB (ids.map f) (ids.map g)=true):∀ id∈ids,∃ s,f id=some s∧g id=some s:=by
 induction ids with
 |nil=>intro id hi;cases hi
 |cons a r ih=>
  simp only [List.map_cons] at h
  cases hf:f a with
  |none=>rw [hf] at h;cases h
  |some x=>
   cases hg:g a with
   |none=>rw [hf,hg] at h;cases h
   |some y=>
    rw [hf,hg] at h
    simp only [wB,Bool.and_eq_true] at h
    have:=Nat.eq_of_beq_eq_true h.1
    subst this
    intro id hi
    rcases List.mem_cons.1 hi with rfl |hi
    ·exact ⟨x,hf,hg⟩
    ·exact ih h.2 id hi
def Qf (P:Program) (hint:Hint) (sh:cr) (o:Option GH) (I0:IH) (Γ:bb) (Pu:Nat→Prop) (H:GH) (I:IH):Prop:=
 match o with
 |some H0=>Mu P hint sh H0 I0 Γ Pu H I
 |none=>True
def Qd (P:Program) (hint:Hint) (sh:cr) (B:FV) (Γ:bb) (Pu:Nat→Prop) (H:GH) (I:IH):List (Nat×Option GH)→List (Nat×IH)→Prop
 | [],[]=>True
 |(c,q)::r,(c',I0)::r'=>(c=c'∧(∀ b,B.Pu b→I0.get b=B.I.get b)∧Qf P hint sh q I0 Γ Pu H I)∧Qd P hint sh B Γ Pu H I r r'
 |_,_=>False
theorem Qd.step {B:FV} {l:List (Nat×Option GH)} {l':List (Nat×IH)} (h:Qd P hint sh B Γ Pu H I l l') (e:Hi Γ Pu H I Γ1 Pu1 H1 I1):Qd P hint sh B Γ1 Pu1 H1 I1 l l':=by
 induction l generalizing l' with
 |nil=>cases l' with
  |nil=>trivial
  |cons _ _=>exact h.elim
 |cons p r ih=>cases l' with
  |nil=>exact h.elim
  |cons q r'=>
   obtain ⟨c,o⟩:=p
   obtain ⟨⟨h1,h2,h3⟩,h4⟩:=h
   refine ⟨⟨h1,h2,?_⟩,ih h4⟩
   cases o with
   |none=>trivial
   |some H0=>exact Mu.step h3 e
theorem vg {B:FV} {m:Nat} {l:List (Nat×Option GH)} {l':List (Nat×IH)} (h:Qd P hint sh B Γ Pu H I l l') (hc:ou m l=true):chained m l'=true:=by
 induction l generalizing l' with
 |nil=>cases l' with
  |nil=>rfl
  |cons _ _=>exact h.elim
 |cons p r ih=>cases l' with
  |nil=>exact h.elim
  |cons q r'=>
   obtain ⟨⟨h1,h2,h3⟩,h4⟩:=h
   obtain ⟨c,H0⟩:=p
   obtain ⟨c',I0⟩:=q
   subst h1
   simp only [ou,Bool.and_eq_true] at hc
   simp only [chained,hc.1,ih h4 hc.2,Bool.and_self]
theorem G9 {B:FV} {fi:FI} {E:GE} {T:En} {o:Oper} {v:Value} {ids:List Nat} {p:Bool} {m:Nat} (hk:kindOf P o= .read) (hs:ar P hint sh Γ Pu H I) (he:ER Γ Pu I E T) (ht:jj (dd fi E) o=some (ids,p))
  (hv:aJ P self (dO fi T) I o=some (.val v I)) (hsame:kF v v=true) {l:List (Nat×Option GH)} {l':List (Nat×IH)} (h:Qd P hint sh B Γ Pu H I l l') (hc:n8 H ids p m l=true):fN P self fi T o v m l'=true:=by
 induction l generalizing l' with
 |nil=>cases l' with
  |nil=>rfl
  |cons _ _=>exact h.elim
 |cons a r ih=>cases l' with
  |nil=>exact h.elim
  |cons b r'=>
   obtain ⟨⟨h1,h2,h3⟩,h4⟩:=h
   obtain ⟨c,q⟩:=a
   obtain ⟨c',I0⟩:=b
   subst h1
   simp only [n8,Bool.and_eq_true,Bool.or_eq_true] at hc
   simp only [fN,ih h4 hc.2,Bool.and_true,Bool.or_eq_true]
   rcases hc.1 with hc |hq
   ·exact .inl hc
   ·right
    cases q with
    |none=>cases hq
    |some H0=>
     simp only [Bool.and_eq_true,Bool.not_eq_true'] at hq
     obtain ⟨hp,hst⟩:=hq
     obtain ⟨Γ0,Pu0,s0,e0⟩:=h3
     have:=AN (self:=self) (I2:=I0) hk ht (bO hs he) hv (fun id hi l b x hl hpos=>by
      obtain ⟨s,q1,q2⟩:=yx hst id hi
      obtain ⟨ob,hob⟩:=GH.fY q1
      obtain ⟨l0,hl0,_⟩:=s0.obj id ob hob
      have:=e0.g id l0 hl0
      cases this.symm.trans hl
      exact (e0.jK id l b x s q1 q2 hl0 hpos).symm) (fun hp'=>by rw [hp] at hp';cases hp')
     simp only [sameAt,CO,this,hsame]
def SA (P:Program) (hint:Hint) (sh:cr) (self:Self) (fi:FI) (Γ:bb) (Pu:Nat→Prop) (H:GH) (I:IH) (g:RA) (q:Rd):Prop:=
 g.i=q.i∧∃ Γ0 Pu0 H0 I0 E0 p,ar P hint sh Γ0 Pu0 H0 I0∧Hi Γ0 Pu0 H0 I0 Γ Pu H I∧ER Γ0 Pu0 I0 E0 q.T∧kindOf P q.o= .read∧jj (dd fi E0) q.o=some (g.ids,p)∧g.st=g.ids.map H0.bh∧
  aJ P self (dO fi q.T) I0 q.o=some (.val q.v I0)∧kF q.v q.v=true
def RG (P:Program) (hint:Hint) (sh:cr) (self:Self) (fi:FI) (Γ:bb) (Pu:Nat→Prop) (H:GH) (I:IH):List RA→List Rd→Prop
 | [],[]=>True
 |g::r,q::r'=>SA P hint sh self fi Γ Pu H I g q∧RG P hint sh self fi Γ Pu H I r r'
 |_,_=>False
theorem RG.step {fi:FI} {l:List RA} {l':List Rd} (h:RG P hint sh self fi Γ Pu H I l l') (e:Hi Γ Pu H I Γ1 Pu1 H1 I1):RG P hint sh self fi Γ1 Pu1 H1 I1 l l':=by
 induction l generalizing l' with
 |nil=>cases l' with
  |nil=>trivial
  |cons _ _=>exact h.elim
 |cons p r ih=>cases l' with
  |nil=>exact h.elim
  |cons q r'=>
   obtain ⟨⟨h1,Γ0,Pu0,H0,I0,E0,pp,k1,k2,k3⟩,h3⟩:=h
   exact ⟨⟨h1,Γ0,Pu0,H0,I0,E0,pp,k1,Hi.trans k1 k2 e,k3⟩,ih h3⟩
theorem wZ {fi:FI} {m:Nat} {l:List RA} {l':List Rd} (h:RG P hint sh self fi Γ Pu H I l l') (hc:kL H m l=true):gR P self fi I m l'=true:=by
 induction l generalizing l' with
 |nil=>cases l' with
  |nil=>rfl
  |cons _ _=>exact h.elim
 |cons g r ih=>cases l' with
  |nil=>exact h.elim
  |cons q r'=>
   obtain ⟨⟨h1,Γ0,Pu0,H0,I0,E0,p,s0,e0,he,hk,ht,hst,hv,hsame⟩,h3⟩:=h
   simp only [kL,Bool.and_eq_true,Bool.or_eq_true] at hc
   simp only [gR,ih h3 hc.2,Bool.and_true,Bool.or_eq_true]
   rcases hc.1 with hc |hq
   ·rw [h1] at hc;exact .inl hc
   ·right
    rw [hst] at hq
    have:=AN (self:=self) (I2:=I) hk ht (bO s0 he) hv (fun id hi l b x hl hpos=>by
     obtain ⟨s,q1,q2⟩:=yx hq id hi
     exact e0.jK id l b x s q1 q2 hl hpos) (fun _ b hb=>e0.i b hb)
    simp only [sameAt,CO,this,hsame]
theorem EK {B:FV} {fi:FI} {T:En} {o:Oper} {v:Value} {m:Nat} (h0:∀ I2,(∀ b,B.Pu b→I2.get b=B.I.get b)→aJ P self (dO fi T) I2 o=some (.val v I2)) (hsame:kF v v=true)
  {l:List (Nat×Option GH)} {l':List (Nat×IH)} (h:Qd P hint sh B Γ Pu H I l l'):fN P self fi T o v m l'=true:=by
 induction l generalizing l' with
 |nil=>cases l' with
  |nil=>rfl
  |cons _ _=>exact h.elim
 |cons a r ih=>cases l' with
  |nil=>exact h.elim
  |cons b r'=>
   obtain ⟨⟨h1,h2,h3⟩,h4⟩:=h
   obtain ⟨c,q⟩:=a
   obtain ⟨c',I0⟩:=b
   subst h1
   have:=h0 I0 h2
   simp only [fN,ih h4,Bool.and_true,sameAt,CO,this,hsame,Bool.or_true]
def nA (fi:FI) (B:FV) (aP:List Nat) (E:GE) (T:En):Prop:=∀ t,xD aP t=false→GR B.Γ B.Pu B.I (ez fi E t) (eH fi T t)
theorem MP {fi:FI} {E:GE} {T:En} {d k:Nat} {t:TV} {v:Value} (h1:k=d→GR Γ Pu I t v) (h2:k≠d→GR Γ Pu I (ez fi E k) (eH fi T k)):GR Γ Pu I (ez fi (cA fi d t E) k) (eH fi (se fi d v T) k):=by
 by_cases hk:k=d
 ·subst hk
  have hv:=h1 rfl
  unfold ez eH cA se
  cases hc:cls fi k with
  |out=>exact .undef _
  |loc=>
   show GR Γ Pu I (eB (lp E.loc k t) k) (lk (Iv.Oy T.loc k v) k)
   rw [eN,vC,if_pos rfl,if_pos rfl];exact hv
  |tmp=>
   show GR Γ Pu I (eB (.c k t E.tmp) k) (lk (.c k v T.tmp) k)
   simp only [eB,lk,Nat.beq_refl,cond_true];exact hv
 ·have h:=h2 hk
  have hb:Nat.beq d k=false:=fD (Ne.symm hk)
  have e1:ez fi (cA fi d t E) k=ez fi E k:=by
   unfold ez cA
   cases cls fi d<;>cases cls fi k<;>simp only [eN,if_neg hk,eB,hb,cond_false]
  have e2:eH fi (se fi d v T) k=eH fi T k:=by
   unfold eH se
   cases cls fi d<;>cases cls fi k<;>simp only [vC,if_neg hk,lk,hb,cond_false]
  rw [e1,e2];exact h
theorem PB {fi:FI} {E:GE} {T:En} {d k:Nat} {t:TV} (h1:GR Γ Pu I t (eH fi T d)) (h2:GR Γ Pu I (ez fi E k) (eH fi T k)):GR Γ Pu I (ez fi (cA fi d t E) k) (eH fi T k):=by
 by_cases hk:k=d
 ·subst hk
  unfold ez cA
  cases hc:cls fi k with
  |out=>exact .undef _
  |loc=>
   show GR Γ Pu I (eB (lp E.loc k t) k) _
   rw [eN,if_pos rfl];exact h1
  |tmp=>
   show GR Γ Pu I (eB (.c k t E.tmp) k) _
   simp only [eB,Nat.beq_refl,cond_true];exact h1
 ·have hb:Nat.beq d k=false:=fD (Ne.symm hk)
  have e1:ez fi (cA fi d t E) k=ez fi E k:=by
   unfold ez cA
   cases cls fi d<;>cases cls fi k<;>simp only [eN,if_neg hk,eB,hb,cond_false]
  rw [e1];exact h2
theorem nA.guard {fi:FI} {B:FV} {aP:List Nat} {E E2:GE} {T:En} (h:nA fi B aP E T) (hg:Sq fi E T E2):nA fi B aP E2 T:=by
 rcases hg with rfl |⟨d,c,rfl,hd⟩
 ·exact h
 ·intro k hk
  exact PB (by rw [hd];exact .bool c) (h k hk)
theorem nA.put {fi:FI} {B:FV} {aP:List Nat} {E:GE} {T:En} (h:nA fi B aP E T) {d:Option Tmp} {t:TV} {v:Value} (hv:GR B.Γ B.Pu B.I t v):nA fi B aP (cJ fi E d t) (cU fi T d v):=by
 cases d with
 |none=>exact h
 |some d=>exact fun k hk=>MP (fun _=>hv) fun _=>h k hk
theorem J6 {t:TV} {v:Value} {Γ':bb} {Pu':Nat→Prop} {I':IH} (hp:fG t=true) (h:GR Γ Pu I t v):GR Γ' Pu' I' t v:=by
 cases h<;>first |(cases hp;done) |skip
 ·exact .int _ _
 ·exact .byte _
 ·exact .bool _
 ·exact .str _
theorem nA.aP {fi:FI} {B:FV} {aP:List Nat} {E:GE} {T:En} (h:nA fi B aP E T) {d:Option Tmp} {t:TV} {v:Value} (hv:GR Γ Pu I t v):nA fi B (hY (fG t) d aP) (cJ fi E d t) (cU fi T d v):=by
 unfold hY
 cases hp:fG t with
 |true=>exact h.put (J6 hp hv)
 |false=>
  cases d with
  |none=>exact h
  |some d=>
   intro k hk
   simp only [cond_false,xD] at hk
   refine MP (fun e=>?_) fun _=>h k ?_
   ·subst e;simp at hk
   ·revert hk;cases xD aP k<;>simp
theorem og {fi:FI} {B:FV} {aP:List Nat} {E:GE} {T:En} (h:nA fi B aP E T) {x:Operand} (hx:JH aP x=true):GR B.Γ B.Pu B.I (dd fi E x) (dO fi T x):=by
 cases x with
 |tmp t=>exact h t (by simpa [JH] using hx)
 |_=>cases hx
theorem FC {fi:FI} {B:FV} {aP:List Nat} {E:GE} {T:En} {o:Oper} {K:TV→GH→Option β} (h:nA fi B aP E T) (he:ER Γ Pu I E T) (hs:ar P hint sh Γ Pu H I) (ho:tt (dd fi E) aP o=true) (hg:gP dF P sh sf (dd fi E) H o K=some r):
  ∃ t v,K t H=some r∧GR B.Γ B.Pu B.I t v∧aJ P self (dO fi T) I o=some (.val v I):=by
 unfold tt at ho
 split at ho
 ·rename_i x hop
  simp only [gP,hop] at hg
  exact ⟨_,_,hg,og h ho,by simp only [aJ,hop]⟩
 ·rename_i x hop
  simp only [gP,hop] at hg
  exact ⟨_,_,hg,og h ho,by simp only [aJ,hop]⟩
 ·rename_i t x ix hop
  simp only [Bool.and_eq_true] at ho
  have h1:=og h ho.1
  have h2:=bO (fi:=fi) hs he ix
  simp only [gP,hop] at hg
  simp only [aJ,hop]
  have hc:=ho.2
  generalize dO fi T x=x' at h1
  generalize dO fi T ix=ix' at h2
  generalize dd fi E x=gx at h1 hc hg
  generalize dd fi E ix=gi at h2 hc hg
  split at hc
  ·rename_i e xs nl cl k i
   cases h2
   cases h1 with |aC hen _ _=>
   simp only [Su] at hg
   rw [su] at hg
   unfold eV at hg
   split at hg
   ·rename_i e2 e1;cases e1;cases e2
   ·rename_i e0 s0 xs0 _ _ _ i0 hu q1 q2
    cases q1
    cases q2
    split at hg
    ·rename_i inf hinf
     replace hg:=ad hg;obtain ⟨hb,hg⟩:=hg
     replace hg:=aE hg;obtain ⟨hc,hg⟩:=hg
     replace hg:=iC hg;obtain ⟨y,hy,hg⟩:=hg
     obtain ⟨b,off,cap,rfl,hr⟩:=hen.at (Γ:=B.Γ) hy
     have hlt:i.toNat<xs.length:=(List.getElem?_eq_some_iff.1 hy).1
     simp only [bo,hu,hinf,qT (bn hc) hlt,if_true]
     rw [←beq_true hb]
     exact ⟨_,_,hg,hr,rfl⟩
    ·cases hg
   ·rename_i e2 e1;cases e1;cases e2
   ·rename_i e2 e1;cases e1;cases e2
   ·cases hg
  ·cases hc
 ·rename_i s x f hop
  simp only [Bool.and_eq_true] at ho
  have h1:=og h ho.1
  simp only [gP,hop] at hg
  simp only [aJ,hop]
  have hc:=ho.2
  generalize dO fi T x=x' at h1
  generalize dd fi E x=gx at h1 hc hg
  split at hc
  ·rename_i cs
   cases h1 with |my a b c d=>
   unfold gh at hg
   split at hg
   ·rename_i fs hu
    split at hg
    ·rename_i fd hfd
     split at hg
     ·rename_i i hi
      cases hz:Nat.beq i.size 0 with
      |true=>rw [hz] at hg;cases hg
      |false=>
       rw [hz] at hg
       simp only [cond_false] at hg
       have hne:i.size≠0:=fun e=>by rw [e] at hz;cases hz
       replace hg:=ad hg;obtain ⟨hb,hg⟩:=hg
       have hl:=aQ hb
       simp only [cp,hu,hfd,hi,if_neg hne]
       refine ⟨_,_,hg,.my a b (by simp;omega) ?_,rfl⟩
       have:=d.drop fd.offset
       rw [List.drop_take,List.drop_drop] at this
       simpa using this
     ·cases hg
    ·cases hg
   ·cases hg
  ·cases hc
 ·cases ho
theorem Gx {fi:FI} {B:FV} {aP:List Nat} {E:GE} {T:En} {o:Oper} {K:TV→GH→Option β} (h:nA fi B aP E T) (ho:tq (dd fi E) aP o=true) (hg:gP dF P sh sf (dd fi E) H o K=some r):
  (∃ t v,K t H=some r∧GR B.Γ B.Pu B.I t v∧∀ I2,(∀ b,B.Pu b→I2.get b=B.I.get b)→aJ P self (dO fi T) I2 o=some (.val v I2))∧jj (dd fi E) o=some ([],true):=by
 unfold tq at ho
 split at ho
 ·rename_i t a hop
  simp only [Bool.and_eq_true] at ho
  have h1:=og h ho.1
  simp only [gP,hop] at hg
  simp only [aJ,hop,jj]
  have hc:=ho.2
  generalize dO fi T a=a' at h1
  generalize dd fi E a=ga at h1 hc hg ⊢
  split at hc
  ·rename_i cs
   refine ⟨?_,rfl⟩
   cases h1 with |my hpu hget hle hr=>
   rw [GC] at hg
   unfold rE at hg
   simp only at hg
   split at hg
   ·rename_i x hx
    obtain ⟨v,hv,hrv⟩:=kO (P:=P) (t:=t) hget hle hr hx
    refine ⟨_,_,hg,hrv,fun I2 hI=>?_⟩
    refine yp (I:=B.I) (J:=B.I) ?_ fun b hb=>?_
    ·simp only [eg,hv]
    ·cases hb;exact hI _ hpu
   ·cases hg
  ·cases hc
 ·cases ho
theorem cI {n0 b:Nat}:∀ {l:List (Nat×bI)} {H:IH},b<n0→(an n0 l H).get b=H.get b:=by
 intro l
 induction l with
 |nil=>intro H _;rfl
 |cons p r ih=>
  intro H hb
  obtain ⟨i,o⟩:=p
  show ((an n0 r H).put (n0+i) o).get b=_
  rw [IH.ah,if_neg (by omega)];exact ih hb
theorem bK {n0:Nat}:∀ {l:List (Nat×bI)} {H:IH},(an n0 l H).n=H.n:=by
 intro l
 induction l with
 |nil=>intro H;rfl
 |cons p r ih=>intro H;exact ih
structure Pb (P:Program) (hint:Hint) (sh:cr) (me:Self) (fi:FI) (B:FV) (R i:Nat) (Γ:bb) (Pu:Nat→Prop) (s:OV) (s':DS):Prop where
 dE:ar P hint sh Γ Pu s.H (an B.I.n s'.bj s'.H)
 env:ER Γ Pu (an B.I.n s'.bj s'.H) s.E s'.T
 bj:s'.bj.map (·.1)=s.pn
 sn:Qd P hint sh B Γ Pu s.H (an B.I.n s'.bj s'.H) s.cf s'.cf
 rd:RG P hint sh me fi Γ Pu s.H (an B.I.n s'.bj s'.H) s.reads s'.reads
 old:nA fi B s.aP s.E s'.T
 BR:Ex (bM B.Γ B.H B.I) B.Γ B.Pu B.H B.I Γ Pu s.H (an B.I.n s'.bj s'.H)
 free:∀ j,i≤j→j<R→(an B.I.n s'.bj s'.H).get (B.I.n+j)=none
 room:B.I.n+R≤s'.H.n
 po:∀ j id,(j,id)∈s.po→∃ l,Γ id=some l∧l.pos=some (B.I.n+j,0)
theorem OI {Γ Γ1:bb} {n0:Nat} {po:List (Nat×Nat)} (h:∀ j id,(j,id)∈po→∃ l,Γ id=some l∧l.pos=some (n0+j,0)) (hg:∀ id l,Γ id=some l→Γ1 id=some l):∀ j id,(j,id)∈po→∃ l,Γ1 id=some l∧l.pos=some (n0+j,0):=fun j id hm=>by
 obtain ⟨l,h1,h2⟩:=h j id hm
 exact ⟨l,hg id l h1,h2⟩
theorem Ex.hi (hs:ar P hint sh Γ Pu H I) (h:Ex (bM Γ H I) Γ Pu H I Γ1 Pu1 H1 I1):Hi Γ Pu H I Γ1 Pu1 H1 I1:=Hi.of hs h fun b hb ho=>hs.sep b ho hb
theorem yB (hs:ar P hint sh Γ Pu H I) (h:Ex (bM Γ H I) Γ Pu H I Γ1 Pu1 H1 I1) {b:Nat} (hb:b<I.n) (hf:I.get b=none):I1.get b=none:=by
 rw [h.dj b hb fun ho=>by obtain ⟨o,ho⟩:=hs.uz ho;rw [hf] at ho;cases ho];exact hf
theorem e8 {n0 b:Nat}:∀ {l:List (Nat×bI)} {H:IH},(∀ x∈l,n0+x.1≠b)→(an n0 l H).get b=H.get b:=by
 intro l
 induction l with
 |nil=>intro H _;rfl
 |cons p r ih=>
  intro H h
  obtain ⟨i,o⟩:=p
  show ((an n0 r H).put (n0+i) o).get b=_
  rw [IH.ah,if_neg (fun e=>h _ List.mem_cons_self e.symm)]
  exact ih fun x hx=>h x (List.mem_cons_of_mem _ hx)
theorem lY {n0 b:Nat} {H H':IH} (h:H.get b=H'.get b):∀ {l:List (Nat×bI)},(an n0 l H).get b=(an n0 l H').get b:=by
 intro l
 induction l with
 |nil=>exact h
 |cons p r ih=>
  obtain ⟨i,o⟩:=p
  show ((an n0 r H).put (n0+i) o).get b=((an n0 r H').put (n0+i) o).get b
  rw [IH.ah,IH.ah,ih]
theorem jt {n0 b m:Nat} {H:IH}:∀ {l:List (Nat×bI)},(an n0 (l.filter fun x=> !m.testBit x.1) (an n0 (l.filter fun x=>m.testBit x.1) H)).get b=(an n0 l H).get b:=by
 intro l
 induction l with
 |nil=>rfl
 |cons p r ih=>
  obtain ⟨i,o⟩:=p
  have hr:(an n0 ((i,o)::r) H).get b=if b=n0+i then some o else (an n0 r H).get b:=by
   show ((an n0 r H).put (n0+i) o).get b=_
   rw [IH.ah]
  rw [hr]
  cases hq:m.testBit i with
  |true=>
   simp only [List.filter_cons,hq,Bool.not_true,if_true,Bool.false_eq_true,if_false]
   by_cases hb:b=n0+i
   ·rw [if_pos hb,e8]
    ·show ((an n0 _ H).put (n0+i) o).get b=_
     rw [IH.ah,if_pos hb]
    ·intro x hx e
     have h2:=(List.mem_filter.1 hx).2
     have:x.1=i:=by omega
     rw [this,hq] at h2;cases h2
   ·rw [if_neg hb,←ih]
    refine lY ?_
    show ((an n0 _ H).put (n0+i) o).get b=_
    rw [IH.ah,if_neg hb]
  |false=>
   simp only [List.filter_cons,hq,Bool.not_false,if_true,Bool.false_eq_true,if_false]
   show ((an n0 _ _).put (n0+i) o).get b=_
   rw [IH.ah]
   by_cases hb:b=n0+i
   ·rw [if_pos hb,if_pos hb]
   ·rw [if_neg hb,if_neg hb];exact ih
theorem GI {t:TypeId} {b off:Nat} {v:Value} (h:cO P I t (.pointer (some ⟨b,off,none⟩)) v=some (.skip I1)):
  (I1=I∧∀ I2,cO P I2 t (.pointer (some ⟨b,off,none⟩)) v=some (.skip I2))∨∃ ob,I1=I.put b ob∧∀ I2:IH,I2.get b=I.get b→cO P I2 t (.pointer (some ⟨b,off,none⟩)) v=some (.skip (I2.put b ob)):=by
 unfold cO at h
 simp only at h
 split at h
 ·rename_i J hJ
  cases h
  unfold rf at hJ
  split at hJ
  ·rename_i i hi
   split at hJ
   ·rename_i hsz
    unfold IH.eM at hJ
    split at hJ
    ·rename_i he
     cases hJ
     exact .inl ⟨rfl,fun I2=>by simp only [cO,rf,hi,hsz,if_true,IH.eM,he]⟩
    ·rename_i he
     split at hJ
     ·rename_i cs e fz ex sh hg
      split at hJ
      ·rename_i hc
       cases hJ
       refine .inr ⟨_,rfl,fun I2 h2=>?_⟩
       simp only [cO,rf,hi,hsz,if_true,IH.eM,he,h2,hg]
       rw [if_pos hc]
       simp
      ·cases hJ
     ·cases hJ
   ·cases hJ
  ·cases hJ
 ·cases h
theorem ar.Rg {I2:IH} (hs:ar P hint sh Γ Pu H I) (hg:∀ b,I2.get b=I.get b) (hn:I2.n=I.n):ar P hint sh Γ Pu H I2∧Ex (bM Γ H I) Γ Pu H I Γ Pu H I2:=by
 have hkeep:cy Γ Pu I Γ Pu I2:=⟨fun _ _ h=>h,fun _ h=>h,fun b _=>hg b⟩
 exact ⟨⟨fun id o ho=>by
   obtain ⟨l,hl,_⟩:=hs.obj id o ho
   exact ⟨l,hl,hs.dS hkeep ho hl fun _ b _=>hg b⟩,hs.J5 (fun _ _ _ b _ _ _ _ _=>hg b),(fun b h=>hs.sep b (pr (fun _ _ _ b _ _ _ _ _=>hg b) h)),hs.aW,fun b hb=>(hg b).trans (hs.fresh b (hn▸hb)),fun b hb=>by
   obtain ⟨cs,et,fz,ex,sd,h⟩:=hs.pu b hb
   exact ⟨cs,et,fz,ex,sd,(hg b).trans h⟩,hn▸hs.ro,hs.gn,hs.ct,hs.st,hs.mF hkeep.p hkeep.i⟩,
  ⟨fun _ _ x=>x,Nat.le_refl _,Nat.le_of_eq hn.symm,fun _ x=>x,fun b _ _=>hg b,fun _ _ x=>pr (fun _ _ _ b _ _ _ _ _=>hg b) x,fun _ _ x=> .inl x,Nat.le_refl _,fun _ _=> .inr (.inl rfl),fun _ _ b _ _ _ _ _ _=>hg b⟩⟩
theorem IZ:∀ {l:List Nat} {H:GH},(rX l H).n=H.n∧(rX l H).ck=H.ck:=by
 intro l
 induction l with
 |nil=>intro H;exact ⟨rfl,rfl⟩
 |cons a r ih=>intro H;exact ih (H:=H.del a)
theorem rH {l:List Nat}:∀ {H:GH} {k:Nat},(rX l H).bh k=if k∈l then none else H.bh k:=by
 induction l with
 |nil=>intro H k;simp [rX]
 |cons a r ih=>
  intro H k
  show (rX r (H.del a)).bh k=_
  rw [ih,GH.fW]
  by_cases h1:k∈r<;>by_cases h2:k=a<;>simp [h1,h2]
theorem z8 {po:List (Nat×Nat)} {js:List Nat} (h:F9 H po js=true):∀ j∈js,∃ id kt gk ge k e xs em,(j,id)∈po∧id∈gX po js∧H.get id=some (.map kt gk ge k e xs em):=by
 have key:∀ js:List Nat,∀ j∈js,∀ p,po.find? (fun p=>Nat.beq p.1 j)=some p→p.2∈gX po js:=by
  intro js
  induction js with
  |nil=>intro j hj;cases hj
  |cons a r ih=>
   intro j hj p hp
   unfold gX
   rcases List.mem_cons.1 hj with rfl |hj
   ·rw [hp];exact List.mem_cons_self
   ·split
    ·exact List.mem_cons_of_mem _ (ih j hj p hp)
    ·exact ih j hj p hp
 intro j hj
 have h1:=List.all_eq_true.1 h j hj
 split at h1
 ·rename_i p hp
  have h2:=List.mem_of_find?_eq_some hp
  have h3:p.1=j:=beq_true (by have:=List.find?_some hp;simpa using this)
  unfold L1 at h1
  split at h1
  ·rename_i kt gk ge k e xs em hg
   exact ⟨p.2,kt,gk,ge,k,e,xs,em,by rw [←h3];exact h2,key js j hj p hp,hg⟩
  ·cases h1
 ·cases h1
theorem Al (ok:eR P hint sh sf self) {fi:FI} {B:FV} (hsB:ar P hint sh B.Γ B.Pu B.H B.I) {ops:Array Oper} {R i m:Nat} {o:Oper} (hR:kindOf P o= .fresh→i<R) {s:OV} {s':DS} {K:OV→Option β} (h:pK dF P sh sf fi ops i o m s K=some r) (hi:Pb P hint sh self fi B R i Γ Pu s s'):
  ∃ s1 s1' Γ1 Pu1,K s1=some r∧fB P self fi ops B.I.n i o m s'= .done s1'∧Pb P hint sh self fi B R (i+1) Γ1 Pu1 s1 s1':=by
 unfold pK at h
 unfold fB
 have kB:=hi.BR.cQ hsB
 have hfree:∀ j,i+1≤j→j<R→(an B.I.n s'.bj s'.H).get (B.I.n+j)=none:=fun j h1 h2=>hi.free j (by omega) h2
 rcases qH h hi.env with ⟨hw,E2,h,he2,hG⟩ |⟨hw,E2,h,he2,hG⟩
 ·have hold:=hi.old.guard hG
  simp only [hw]
  split at h
  ·rename_i hk
   simp only [hk]
   cases hos:tt (dd fi E2) s.aP o with
   |true=>
    rw [hos] at h
    simp only [cond_true] at h
    obtain ⟨t,v,k1,k2,e⟩:=FC (self:=self) hold he2 hi.dE hos h
    obtain ⟨v',hv',hall⟩:=oy hk _ _ e
    cases hv'
    simp only at hall
    simp only [hall s'.H]
    exact ⟨_,_,Γ,Pu,k1,rfl,⟨hi.dE,he2.put fi o.dst (k2.mono kB),hi.bj,hi.sn,hi.rd,hold.put k2,hi.BR,hfree,hi.room,hi.po⟩⟩
   |false=>
    rw [hos] at h
    simp only [cond_false] at h
    obtain ⟨t,H1,Γ1,Pu1,v,I1,k1,k2,k3,k4,k5⟩:=qn hi.dE ok (bO hi.dE he2) h
    rcases fU k2 with e |⟨e,rfl⟩
    ·obtain ⟨v',hv',hall⟩:=oy hk _ _ e
     cases hv'
     simp only at hall
     simp only [hall s'.H]
     have hh:=k5.hi hi.dE
     exact ⟨_,_,Γ1,Pu1,k1,rfl,⟨k4,(he2.mono (k5.cQ hi.dE)).put fi o.dst k3,hi.bj,hi.sn.step hh,hi.rd.step hh,hold.aP k3,Ex.trans hsB hi.dE hi.BR k5,hfree,hi.room,OI hi.po k5.g⟩⟩
    ·obtain ⟨v',hv',_⟩:=oy hk _ _ e
     cases hv'
  ·rename_i hk
   simp only [hk]
   cases hos:tq (dd fi E2) s.aP o with
   |true=>
    rw [hos] at h
    simp only [cond_true] at h
    obtain ⟨⟨t,v,k1,k2,e⟩,ht⟩:=Gx (self:=self) hold hos h
    replace k1:=ad k1
    obtain ⟨hsm,k1⟩:=k1
    have hsv:=EC hsm k2
    have e1:=e s'.H fun b hb=>by rw [←cI (l:=s'.bj) (hsB.jx hb)];exact kB.i b hb
    have e2:=e (an B.I.n s'.bj s'.H) fun b hb=>kB.i b hb
    simp only [e1,EK (self:=self) e hsv hi.sn,if_true]
    exact ⟨_,_,Γ,Pu,k1,rfl,⟨hi.dE,he2.put fi o.dst (k2.mono kB),hi.bj,hi.sn,
     ⟨⟨rfl,Γ,Pu,s.H,_,E2,true,hi.dE,.refl,he2,hk,ht,rfl,e2,hsv⟩,hi.rd⟩,hold.put k2,hi.BR,hfree,hi.room,hi.po⟩⟩
   |false=>
    rw [hos] at h
    simp only [cond_false] at h
    split at h
    ·rename_i ids p ht
     replace h:=ad h
     obtain ⟨hc,h⟩:=h
     simp only [Bool.and_eq_true] at hc
     obtain ⟨hpn,hc⟩:=hc
     obtain ⟨t,H1,Γ1,Pu1,v,I1,k1,k2,k3,k4,k5⟩:=qn hi.dE ok (bO hi.dE he2) h
     replace k1:=ad k1
     obtain ⟨hsm,k1⟩:=k1
     rcases fU k2 with e |⟨e,rfl⟩
     ·have hI:=yL hk _ _ _ e
      subst hI
      have hsv:=EC hsm k3
      have e1:aJ P self (dO fi s'.T) s'.H o=some (.val v s'.H):=by
       rcases Bool.or_eq_true_iff.1 hpn with hq |hq
       ·have hp0:s'.bj= []:=by
         have:=hi.bj
         rw [List.isEmpty_iff.1 hq] at this
         exact List.map_eq_nil_iff.1 this
        rw [hp0] at e
        exact e
       ·simp only [Bool.and_eq_true,Bool.not_eq_true'] at hq
        obtain ⟨hq1,hq2⟩:=hq
        have:=List.isEmpty_iff.1 hq1
        subst this
        exact AN (self:=self) hk ht (bO hi.dE he2) e (fun id hid=>by cases hid) (fun hp'=>by rw [hq2] at hp';cases hp')
      simp only [e1,G9 (self:=self) hk hi.dE he2 ht e hsv hi.sn hc,if_true]
      have hh:=k5.hi hi.dE
      exact ⟨_,_,Γ1,Pu1,k1,rfl,⟨k4,(he2.mono (k5.cQ hi.dE)).put fi o.dst k3,hi.bj,hi.sn.step hh,
       ⟨⟨rfl,Γ,Pu,s.H,_,E2,p,hi.dE,hh,he2,hk,ht,rfl,e,hsv⟩,hi.rd.step hh⟩,hold.aP k3,Ex.trans hsB hi.dE hi.BR k5,hfree,hi.room,OI hi.po k5.g⟩⟩
     ·exact absurd e (Ep hk)
    ·cases h
  ·rename_i hk
   have hiR:=hR hk
   split at h
   ·rename_i t len ps hop
    simp only [gP,hop] at h
    have hk0:=hi.free i (Nat.le_refl _) hiR
    have hroN:dm≤B.I.n+i:=Nat.le_trans hsB.ro (Nat.le_add_right _ _)
    obtain ⟨q,H1,Γ1,Pu1,v,ob,k1,k2,k3,k4,k5⟩:=sC hi.dE hk0 (by rw [bK];have:=hi.room;omega) hroN h (Fu.map (bO hi.dE he2) _)
    have e1:aJ P self (dO fi s'.T) { s'.H with n:=B.I.n+i } o=some (.val v (({ s'.H with n:=B.I.n+i }:IH).new ob)):=by
     simp only [aJ,hop];exact k2 _ rfl
    have e2:(({ s'.H with n:=B.I.n+i }:IH).new ob).get (B.I.n+i)=some ob:=by rw [IH.aw];exact if_pos rfl
    simp only [hk,e1,e2]
    have hh:=Hi.of hi.dE k5 fun b hb ho=>by
     rcases ho with ho |rfl
     ·exact hi.dE.sep b ho hb
     ·obtain ⟨cs,et,fz,ex,sd,hg⟩:=hi.dE.pu _ hb
      rw [hk0] at hg;cases hg
    refine ⟨_,_,Γ1,Pu1,k1,rfl,⟨k4,(he2.mono hh.cQ).put fi o.dst k3,?_,hi.sn.step hh,hi.rd.step hh,hold.aP k3,Ex.ma hsB hi.BR k5 (fun b hb ho=>?_),fun j h1 h2=>?_,hi.room,OI hi.po k5.g⟩⟩
    ·simp only [List.map_cons,hi.bj]
    ·rcases ho with ho |rfl
     ·exact hi.BR.own b hb ho
     ·omega
    ·show ((an B.I.n s'.bj s'.H).put (B.I.n+i) ob).get (B.I.n+j)=none
     rw [IH.ah,if_neg (by omega)]
     exact hfree j h1 h2
   ·rename_i et hop
    simp only [gP,hop] at h
    have hk0:=hi.free i (Nat.le_refl _) hiR
    have hroN:dm≤B.I.n+i:=Nat.le_trans hsB.ro (Nat.le_add_right _ _)
    obtain ⟨q,H1,Γ1,Pu1,v,ob,k1,k2,k3,k4,k5⟩:=KH hi.dE hk0 (by rw [bK];have:=hi.room;omega) hroN h
    have e1:aJ P self (dO fi s'.T) { s'.H with n:=B.I.n+i } o=some (.val v (({ s'.H with n:=B.I.n+i }:IH).new ob)):=by
     simp only [aJ,hop];exact k2 _ rfl
    have e2:(({ s'.H with n:=B.I.n+i }:IH).new ob).get (B.I.n+i)=some ob:=by rw [IH.aw];exact if_pos rfl
    simp only [hk,e1,e2]
    have hh:=Hi.of hi.dE k5 fun b hb ho=>by
     rcases ho with ho |rfl
     ·exact hi.dE.sep b ho hb
     ·obtain ⟨cs,et,fz,ex,sd,hg⟩:=hi.dE.pu _ hb
      rw [hk0] at hg;cases hg
    refine ⟨_,_,Γ1,Pu1,k1,rfl,⟨k4,(he2.mono hh.cQ).put fi o.dst k3,?_,hi.sn.step hh,hi.rd.step hh,hold.aP k3,Ex.ma hsB hi.BR k5 (fun b hb ho=>?_),fun j h1 h2=>?_,hi.room,OI hi.po k5.g⟩⟩
    ·simp only [List.map_cons,hi.bj]
    ·rcases ho with ho |rfl
     ·exact hi.BR.own b hb ho
     ·omega
    ·show ((an B.I.n s'.bj s'.H).put (B.I.n+i) ob).get (B.I.n+j)=none
     rw [IH.ah,if_neg (by omega)]
     exact hfree j h1 h2
   ·rename_i t lo co hop
    simp only [gP,hop] at h
    have hk0:=hi.free i (Nat.le_refl _) hiR
    have hroN:dm≤B.I.n+i:=Nat.le_trans hsB.ro (Nat.le_add_right _ _)
    obtain ⟨q,H1,Γ1,Pu1,v,ob,k1,k2,k3,k4,k5⟩:=vN hi.dE hk0 (by rw [bK];have:=hi.room;omega) hroN h (bO hi.dE he2 _) (bO hi.dE he2 _) (fun he=>by
   rename_i t l c
   unfold Ap at he
   split at he
   ·rw [beq_true he]
   ·cases he)
    have e1:aJ P self (dO fi s'.T) { s'.H with n:=B.I.n+i } o=some (.val v (({ s'.H with n:=B.I.n+i }:IH).new ob)):=by
     simp only [aJ,hop];exact k2 _ rfl
    have e2:(({ s'.H with n:=B.I.n+i }:IH).new ob).get (B.I.n+i)=some ob:=by rw [IH.aw];exact if_pos rfl
    simp only [hk,e1,e2]
    have hh:=Hi.of hi.dE k5 fun b hb ho=>by
     rcases ho with ho |rfl
     ·exact hi.dE.sep b ho hb
     ·obtain ⟨cs,et,fz,ex,sd,hg⟩:=hi.dE.pu _ hb
      rw [hk0] at hg;cases hg
    refine ⟨_,_,Γ1,Pu1,k1,rfl,⟨k4,(he2.mono hh.cQ).put fi o.dst k3,?_,hi.sn.step hh,hi.rd.step hh,hold.aP k3,Ex.ma hsB hi.BR k5 (fun b hb ho=>?_),fun j h1 h2=>?_,hi.room,OI hi.po k5.g⟩⟩
    ·simp only [List.map_cons,hi.bj]
    ·rcases ho with ho |rfl
     ·exact hi.BR.own b hb ho
     ·omega
    ·show ((an B.I.n s'.bj s'.H).put (B.I.n+i) ob).get (B.I.n+j)=none
     rw [IH.ah,if_neg (by omega)]
     exact hfree j h1 h2
   ·rename_i t n hop
    simp only [gP,hop] at h
    have hk0:=hi.free i (Nat.le_refl _) hiR
    have hroN:dm≤B.I.n+i:=Nat.le_trans hsB.ro (Nat.le_add_right _ _)
    obtain ⟨q,H1,Γ1,Pu1,v,ob,k1,k2,k3,k4,k5,k6⟩:=BC hi.dE hk0 (by rw [bK];have:=hi.room;omega) hroN h (dv.map (bO hi.dE he2) _)
    have e1:aJ P self (dO fi s'.T) { s'.H with n:=B.I.n+i } o=some (.val v (({ s'.H with n:=B.I.n+i }:IH).new ob)):=by
     simp only [aJ,hop];exact k2 _ rfl
    have e2:(({ s'.H with n:=B.I.n+i }:IH).new ob).get (B.I.n+i)=some ob:=by rw [IH.aw];exact if_pos rfl
    simp only [hk,e1,e2]
    have hh:=Hi.of hi.dE k5 fun b hb ho=>by
     rcases ho with ho |rfl
     ·exact hi.dE.sep b ho hb
     ·obtain ⟨cs,et,fz,ex,sd,hg⟩:=hi.dE.pu _ hb
      rw [hk0] at hg;cases hg
    refine ⟨_,_,Γ1,Pu1,k1,rfl,⟨k4,(he2.mono hh.cQ).put fi o.dst k3,?_,hi.sn.step hh,hi.rd.step hh,hold.aP k3,Ex.ma hsB hi.BR k5 (fun b hb ho=>?_),fun j h1 h2=>?_,hi.room,fun j id hm=>?_⟩⟩
    ·simp only [List.map_cons,hi.bj]
    ·rcases ho with ho |rfl
     ·exact hi.BR.own b hb ho
     ·omega
    ·show ((an B.I.n s'.bj s'.H).put (B.I.n+i) ob).get (B.I.n+j)=none
     rw [IH.ah,if_neg (by omega)]
     exact hfree j h1 h2
    ·rcases List.mem_cons.1 hm with hm |hm
     ·cases hm;exact k6
     ·exact OI hi.po k5.g j id hm
   ·cases h
  ·rename_i hk
   replace h:=ad h
   obtain ⟨hc,h⟩:=h
   cases hall:s.pn.all (fun j=>m.testBit j) with
   |true=>
    rw [hall] at h
    simp only [cond_true] at h
    obtain ⟨t,H1,Γ1,Pu1,v,I1,k1,k2,k3,k4,k5⟩:=qn hi.dE ok (bO hi.dE he2) h
    replace k1:=ad k1
    obtain ⟨hr,k1⟩:=k1
    have hmem:∀ x∈s'.bj,m.testBit x.1=true:=fun x hx=>List.all_eq_true.1 hall x.1 (by rw [←hi.bj];exact List.mem_map.2 ⟨x,hx,rfl⟩)
    have f1:(s'.bj.filter fun x=>m.testBit x.1)=s'.bj:=List.filter_eq_self.2 hmem
    have f2:(s'.bj.filter fun x=> !m.testBit x.1)= []:=List.filter_eq_nil_iff.2 fun x hx=>by rw [hmem x hx];exact Bool.false_ne_true
    simp only [hk,vg hi.sn hc,if_true,f1,f2]
    have hh:=k5.hi hi.dE
    have hrd:=hi.rd.step hh
    have hr':=wZ hrd hr
    have hB1:∀ b,B.Pu b→s'.H.get b=B.I.get b:=fun b hb=>by rw [←cI (l:=s'.bj) (hsB.jx hb)];exact kB.i b hb
    have hpo:Qf P hint sh (bif s.pn.isEmpty then some s.H else none) s'.H Γ1 Pu1 H1 I1:=by
     cases hq:s.pn.isEmpty with
     |false=>trivial
     |true=>
      have hp0:s'.bj= []:=by
       have:=hi.bj
       rw [List.isEmpty_iff.1 hq] at this
       exact List.map_eq_nil_iff.1 this
      have hsim:=hi.dE
      rw [hp0] at hsim hh
      exact ⟨Γ,Pu,hsim,hh⟩
    have hroom:B.I.n+R≤I1.n:=Nat.le_trans (by rw [bK];exact hi.room) k5.n
    have hf1:∀ j,i+1≤j→j<R→I1.get (B.I.n+j)=none:=fun j h1 h2=>yB hi.dE k5 (by rw [bK];have:=hi.room;omega) (hfree j h1 h2)
    rcases fU k2 with e |⟨e,rfl⟩
    ·simp only [e,hr',if_true]
     exact ⟨_,_,Γ1,Pu1,k1,rfl,⟨k4,(he2.mono (k5.cQ hi.dE)).put fi o.dst k3,rfl,⟨⟨rfl,hB1,hpo⟩,hi.sn.step hh⟩,hrd,hold.aP k3,Ex.trans hsB hi.dE hi.BR k5,hf1,hroom,OI hi.po k5.g⟩⟩
    ·simp only [e,hr',if_true]
     exact ⟨_,_,Γ1,Pu1,k1,rfl,⟨k4,(he2.mono (k5.cQ hi.dE)).put fi o.dst k3,rfl,⟨⟨rfl,hB1,hpo⟩,hi.sn.step hh⟩,hrd,hold.aP k3,Ex.trans hsB hi.dE hi.BR k5,hf1,hroom,OI hi.po k5.g⟩⟩
   |false=>
    rw [hall] at h
    simp only [cond_false] at h
    replace h:=ad h
    obtain ⟨hlate,h⟩:=h
    unfold NK at hlate
    split at hlate
    ·rename_i t a w hop
     split at hlate
     ·rename_i id off ha
      split at hlate
      ·rename_i cet ccs hg
       obtain ⟨t',H1,Γ1,Pu1,v',I1,k1,k2,k3,k4,k5⟩:=qn hi.dE ok (bO hi.dE he2) h
       replace k1:=ad k1
       obtain ⟨hr,k1⟩:=k1
       replace hr:=Go.Gv.and_true hr
       obtain ⟨hl1,hr⟩:=hr
       have hra:=bO (fi:=fi) hi.dE he2 a
       rw [ha] at hra
       have hra':∃ b l,Γ id=some l∧l.pos=some (b,0)∧dO fi s'.T a= .pointer (some ⟨b,off,none⟩):=by
        generalize dO fi s'.T a=q at hra
        cases hra with |ptr x y=>exact ⟨_,_,x,y,rfl⟩
       obtain ⟨b,l,hl,hp,hae⟩:=hra'
       simp only [aJ,hop,hae] at k2
       have hnb:∀ x∈s'.bj.filter (fun x=> !m.testBit x.1),B.I.n+x.1≠b:=fun x hx e=>by
        have hx':x.1∈s.pn.filter (fun j=> !m.testBit j):=List.mem_filter.2 ⟨by rw [←hi.bj];exact List.mem_map.2 ⟨x,(List.mem_filter.1 hx).1,rfl⟩,(List.mem_filter.1 hx).2⟩
        obtain ⟨id2,kt,gk,ge,k,e2,xs,em,q1,_,q3⟩:=z8 hlate _ hx'
        obtain ⟨l2,q4,q5⟩:=hi.po _ _ q1
        have:=hi.dE.R3 id id2 _ _ l l2 b 0 0 hg q3 rfl rfl hl q4 hp (by rw [q5,e])
        rw [this,q3] at hg
        cases hg
       have hev:al (cO P (an B.I.n s'.bj s'.H) t (.pointer (some ⟨b,off,none⟩)) (dO fi s'.T w))=some (v',I1)→cO P (an B.I.n s'.bj s'.H) t (.pointer (some ⟨b,off,none⟩)) (dO fi s'.T w)=some (.skip I1)∧v'=Go.undef:=fun q=>by
        rcases fU q with e |e
        ·unfold cO at e
         simp only at e
         split at e<;>cases e
        ·exact e
       obtain ⟨e,rfl⟩:=hev k2
       have hIa:(an B.I.n (s'.bj.filter fun x=>m.testBit x.1) s'.H).get b=(an B.I.n s'.bj s'.H).get b:=(e8 hnb).symm.trans jt
       obtain ⟨Ia1,e1,hG,hnA⟩:∃ Ia1,cO P (an B.I.n (s'.bj.filter fun x=>m.testBit x.1) s'.H) t (.pointer (some ⟨b,off,none⟩)) (dO fi s'.T w)=some (.skip Ia1)∧(∀ x,(an B.I.n (s'.bj.filter fun x=> !m.testBit x.1) Ia1).get x=I1.get x)∧Ia1.n=I1.n:=by
        rcases GI e with ⟨rfl,hall⟩ |⟨ob,rfl,hall⟩
        ·exact ⟨_,hall _,fun x=>jt,by rw [bK,bK]⟩
        ·refine ⟨_,hall _ hIa,fun x=>?_,by simp only [IH.Qe,bK]⟩
         by_cases hx:x=b
         ·subst hx
          rw [e8 hnb,IH.ah,IH.ah,if_pos rfl,if_pos rfl]
         ·rw [IH.ah (an B.I.n s'.bj s'.H),if_neg hx]
          exact (lY (by rw [IH.ah,if_neg hx])).trans jt
       have e1':aJ P self (dO fi s'.T) (an B.I.n (s'.bj.filter fun x=>m.testBit x.1) s'.H) o=some (.skip Ia1):=by
        simp only [aJ,hop,hae];exact e1
       have hn2:(an B.I.n (s'.bj.filter fun x=> !m.testBit x.1) Ia1).n=I1.n:=by rw [bK];exact hnA
       obtain ⟨s2,x2⟩:=k4.Rg hG hn2
       have hh:=k5.hi hi.dE
       have hh2:=x2.hi k4
       have hrd:=hi.rd.step hh
       have hpo1:=OI hi.po k5.g
       have late:∀ x∈s'.bj.filter (fun x=> !m.testBit x.1),∃ id2 l2,id2∈gX s.po (s.pn.filter fun j=> !m.testBit j)∧(∃ o2,H1.get id2=some o2∧o2.ej=true)∧Γ1 id2=some l2∧l2.pos=some (B.I.n+x.1,0):=fun x hx=>by
        have hx':x.1∈s.pn.filter (fun j=> !m.testBit j):=List.mem_filter.2 ⟨by rw [←hi.bj];exact List.mem_map.2 ⟨x,(List.mem_filter.1 hx).1,rfl⟩,(List.mem_filter.1 hx).2⟩
        obtain ⟨id2,kt,gk,ge,k,e2,xs,em,q1,q2,q3⟩:=z8 hl1 _ hx'
        obtain ⟨l2,q4,q5⟩:=hpo1 _ _ q1
        exact ⟨id2,l2,q2,⟨_,q3,rfl⟩,q4,q5⟩
       have hiD:Hi Γ1 Pu1 H1 I1 Γ1 Pu1 (rX (gX s.po (s.pn.filter fun j=> !m.testBit j)) H1) Ia1:=by
        have same:∀ b,(∀ x∈s'.bj.filter (fun x=> !m.testBit x.1),B.I.n+x.1≠b)→Ia1.get b=I1.get b:=fun b hb=>by rw [←hG b,e8 hb]
        refine ⟨fun _ _ h=>h,fun _ h=>h,fun b hb=>same b fun x hx e=>?_,Nat.le_of_eq IZ.1.symm,Nat.le_of_eq IZ.2.symm,fun id _=>?_,fun id l b x s0 h1 h2 h3 h4=>same b fun y hy e=>?_⟩
        ·obtain ⟨id2,l2,q1,⟨o2,q2,q3⟩,q4,q5⟩:=late x hx
         exact k4.sep b (.pos q2 q3 q4 (by rw [q5,e])) hb
        ·rw [rH]
         split
         ·exact .inl rfl
         ·exact .inr (.inl rfl)
        ·obtain ⟨id2,l2,q1,⟨o2,q2,q3⟩,q4,q5⟩:=late y hy
         obtain ⟨oo,h5⟩:=GH.fY h1
         obtain ⟨l',h6,h7⟩:=k4.obj id oo h5
         cases h3.symm.trans h6
         cases hm:oo.ej with
         |true=>
          have:=k4.R3 id id2 _ _ l l2 b x 0 h5 q2 hm q3 h3 q4 h4 (by rw [q5,e])
          rw [rH,if_pos (this▸q1)] at h2
          cases h2
         |false=>exact k4.sep b (.pos q2 q3 q4 (by rw [q5,e])) (h7.rest hm (.inl ⟨x,h4⟩))
       have hr':=wZ (hrd.step hiD) hr
       have hB1:∀ b,B.Pu b→s'.H.get b=B.I.get b:=fun b hb=>by rw [←cI (l:=s'.bj) (hsB.jx hb)];exact kB.i b hb
       have hf1:∀ j,i+1≤j→j<R→I1.get (B.I.n+j)=none:=fun j h1 h2=>yB hi.dE k5 (by rw [bK];have:=hi.room;omega) (hfree j h1 h2)
       have hroom:B.I.n+R≤Ia1.n:=by rw [hnA];exact Nat.le_trans (by rw [bK];exact hi.room) k5.n
       have hH:=Hi.trans hi.dE hh hh2
       simp only [hk,vg hi.sn hc,if_true,e1',hr']
       refine ⟨_,_,Γ1,Pu1,k1,rfl,⟨s2,((he2.mono (k5.cQ hi.dE)).put fi o.dst k3).mono hh2.cQ,?_,⟨⟨rfl,hB1,trivial⟩,hi.sn.step hH⟩,hi.rd.step hH,hold.aP k3,Ex.trans hsB k4 (Ex.trans hsB hi.dE hi.BR k5) x2,fun j h1 h2=>(hG _).trans (hf1 j h1 h2),hroom,hpo1⟩⟩
       rw [←hi.bj,List.filter_map];rfl
      ·cases hlate
     ·cases hlate
    ·cases hlate
 ·simp only [hw]
  exact ⟨_,_,Γ,Pu,h,rfl,⟨hi.dE,he2.put fi o.dst (.raw Go.undef),hi.bj,hi.sn,hi.rd,(hi.old.guard hG).put (.raw Go.undef),hi.BR,hfree,hi.room,hi.po⟩⟩
theorem C2 (ok:eR P hint sh sf self) {fi:FI} {B:FV} (hsB:ar P hint sh B.Γ B.Pu B.H B.I) {ops:Array Oper} {R:Nat}:∀ {l:List Oper} {i:Nat} {ms:List Nat} {s:OV} {s':DS} {Γ:bb} {Pu:Nat→Prop} {K:OV→Option β},(∀ o∈l,kindOf P o= .fresh→i+l.length≤R)→oI dF P sh sf fi ops l i ms s K=some r→Pb P hint sh self fi B R i Γ Pu s s'→
  ∃ s1 s1' Γ1 Pu1 i1,K s1=some r∧bq P self fi ops B.I.n l i ms s' none= .done s1'∧Pb P hint sh self fi B R i1 Γ1 Pu1 s1 s1':=by
 intro l
 induction l with
 |nil=>intro i ms s s' Γ Pu K _ h hi;exact ⟨s,s',Γ,Pu,i,h,by cases ms<;>rfl,hi⟩
 |cons o rest ih=>
  intro i ms s s' Γ Pu K hl h hi
  cases ms with
  |nil=>cases h
  |cons m ms=>
   simp only [oI] at h
   obtain ⟨s1,s1',Γ1,Pu1,k1,k2,k3⟩:=Al ok hsB (fun hk=>by have:=hl o (List.mem_cons_self ..) hk;simp at this;omega) h hi
   obtain ⟨s2,s2',Γ2,Pu2,i2,j1,j2,j3⟩:=ih (fun o' ho' hk=>by have:=hl o' (List.mem_cons_of_mem _ ho') hk;simp at this;omega) k1 k3
   refine ⟨s2,s2',Γ2,Pu2,i2,j1,?_,j3⟩
   simp only [bq,k2]
   exact j2
theorem MT (ok:eR P hint sh sf self) {fi:FI} {ops:Array Oper} {E:GE} {E':En} {D:List Deferred} {K:GE→GH→Option β} (h:Oj dF P sh sf fi ops E H K=some r) (hs:ar P hint sh Γ Pu H I) (he:ER Γ Pu I E E'):
  ∃ E1 H1 Γ1 Pu1 E1' I1,K E1 H1=some r∧w8 P self fi ops E' I D=some (.normal,E1',I1,D)∧ER Γ1 Pu1 I1 E1 E1'∧ar P hint sh Γ1 Pu1 H1 I1∧Ex (bM Γ H I) Γ Pu H I Γ1 Pu1 H1 I1:=by
 unfold Oj at h
 replace h:=ad h
 obtain ⟨hc,h⟩:=h
 have hold:nA fi ⟨Γ,Pu,H,I⟩ [] E E':=fun t _=>by
  unfold ez eH
  cases cls fi t with
  |out=>exact .undef _
  |loc=>exact (he t).1
  |tmp=>exact (he t).2
 have hget:∀ b,({ I with n:=I.n+fH P ops }:IH).get b=I.get b:=fun b=>rfl
 have hkeep:cy Γ Pu I Γ Pu { I with n:=I.n+fH P ops }:=⟨fun _ _ h=>h,fun _ h=>h,fun _ _=>rfl⟩
 have hs1:ar P hint sh Γ Pu H { I with n:=I.n+fH P ops }:=⟨fun id o ho=>by
   obtain ⟨l,hl,_⟩:=hs.obj id o ho
   exact ⟨l,hl,hs.dS hkeep ho hl fun _ _ _=>rfl⟩,hs.J5 (fun _ _ _ _ _ _ _ _ _=>rfl),(fun b h=>hs.sep b (pr (fun _ _ _ _ _ _ _ _ _=>rfl) h)),hs.aW,fun b hb=>hs.fresh b (Nat.le_trans (Nat.le_add_right _ _) hb),hs.pu,Nat.le_trans hs.ro (Nat.le_add_right _ _),hs.gn,hs.ct,hs.st,hs.mF hkeep.p hkeep.i⟩
 have hb1:Ex (bM Γ H I) Γ Pu H I Γ Pu H { I with n:=I.n+fH P ops }:=⟨fun _ _ x=>x,Nat.le_refl _,Nat.le_add_right _ _,fun _ x=>x,fun _ _ _=>rfl,fun _ _ x=>pr (fun _ _ _ _ _ _ _ _ _=>rfl) x,fun _ _ x=> .inl x,Nat.le_refl _,fun _ _=> .inr (.inl rfl),fun _ _ _ _ _ _ _ _ _=>rfl⟩
 have hres:∀ o∈ops.toList,kindOf P o= .fresh→0+ops.toList.length≤fH P ops:=fun o ho hk=>by
  unfold fH
  rw [if_pos (List.any_eq_true.2 ⟨o,ho,decide_eq_true hk⟩)]
  simp
 obtain ⟨s1,s1',Γ1,Pu1,i1,k1,k2,k3⟩:=C2 ok (B:=⟨Γ,Pu,H,I⟩) hs (R:=fH P ops) hres h (s':=⟨E',{ I with n:=I.n+fH P ops },[],[],[]⟩)
  ⟨hs1,he.mono hkeep,rfl,trivial,trivial,hold,hb1,fun j _ _=>hs.fresh _ (Nat.le_add_right _ _),Nat.le_refl _,fun j id hm=>by cases hm⟩
 refine ⟨s1.E,s1.H,Γ1,Pu1,s1'.T,an I.n s1'.bj s1'.H,k1,?_,k3.env,k3.dE,k3.BR⟩
 simp only [w8,hc,if_true,k2]
end
end Go.Gv
