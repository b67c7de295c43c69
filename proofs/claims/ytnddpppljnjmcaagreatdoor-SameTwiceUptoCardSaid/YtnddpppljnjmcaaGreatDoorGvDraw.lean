/- The pure evaluator's regions are the ideal one's. -/
import Derived.Test.YtnddpppljnjmcaaGreatDoorGvFresh
set_option linter.unusedSimpArgs false
set_option linter.unusedVariables false
namespace Go.Gv
open Go Go.Iv
section
variable {β:Type} {P:Program} {hint:Hint} {O:Nat→Prop} {Γ Γ1:Gam} {Pu Pu1:Nat→Prop} {H H1:GH} {I I1 I2:IH} {r:β} {sf:GSelf β} {self:Self} {sh:ShT}
def GSt (fi:FI) (E:GE) (E':En) (E2:GE):Prop:=E2=E∨∃ d c,E2=putGE fi d (.bool c) E∧lkE fi E' d= .bool c
theorem gGuard_ok {fi:FI} {ops:Array Oper} {o:Oper} {E:GE} {E':En} {run skip:GE→Option β} (h:gGuard std fi ops o E run skip=some r) (he:ER Γ Pu I E E'):
  (wantedI fi ops E' o=some true∧∃ E2,run E2=some r∧ER Γ Pu I E2 E'∧GSt fi E E' E2)∨(wantedI fi ops E' o=some false∧∃ E2,skip E2=some r∧ER Γ Pu I E2 E'∧GSt fi E E' E2):=by
 unfold gGuard at h
 unfold wantedI
 split at h
 ·rename_i hg
  simp only [hg]
  exact .inl ⟨by first |rfl |trivial,E,h,he,.inl rfl⟩
 ·rename_i j want hg
  simp only [hg]
  split at h
  ·rename_i d hd
   simp only [hd]
   have hv:GR Γ Pu I (lkGE fi E d) (lkE fi E' d):=by
    unfold lkGE lkE
    cases cls fi d with
    |out=>exact .undef _
    |loc=>exact (he d).1
    |tmp=>exact (he d).2
   split at h
   ·rename_i b hb
    rw [hb] at hv
    have hE2:∀ c,b=c→ER Γ Pu I (putGE fi d (.bool c) E) E':=fun c hc=>he.know d fi (by subst hc;exact hv)
    have hG:∀ c,lkE fi E' d= .bool c→GSt fi E E' (putGE fi d (.bool c) E):=fun c hc=> .inr ⟨d,c,rfl,hc⟩
    generalize lkE fi E' d=v at hv hG
    cases hv
    rcases sel_some h with ⟨rfl,h⟩ | ⟨rfl,h⟩
    ·cases want
     ·exact .inr ⟨rfl,_,h,hE2 true rfl,hG true rfl⟩
     ·exact .inl ⟨rfl,_,h,hE2 true rfl,hG true rfl⟩
    ·cases want
     ·exact .inl ⟨rfl,_,h,hE2 false rfl,hG false rfl⟩
     ·exact .inr ⟨rfl,_,h,hE2 false rfl,hG false rfl⟩
   ·rename_i v hb
    rw [hb] at hv
    generalize lkE fi E' d=v' at hv
    cases hv
    split at h
    ·cases h
    ·cases h
    ·rename_i h1 h2
     refine .inr ⟨?_,E,h,he,.inl rfl⟩
     split
     ·exact absurd rfl (h1 _)
     ·exact absurd rfl (h2 _)
     ·rfl
   ·cases h
  ·cases h
theorem resV_some {o:Option OpRes} {v:Value} {J:IH} (h:resV o=some (v,J)):o=some (.val v J)∨(o=some (.skip J)∧v=Go.undef):=by
 unfold resV at h
 split at h
 ·cases h;exact .inl rfl
 ·cases h;exact .inr ⟨rfl,rfl⟩
 ·cases h
theorem gOps_ok (ok:SelfOK P hint sh sf self) {fi:FI} {ro:Option Nat} {ops:Array Oper}:∀ {l:List Oper} {E:GE} {E':En} {H:GH} {I:IH} {Γ:Gam} {Pu:Nat→Prop} {D:List Deferred} {K:GE→GH→Option β},gOps std P sh sf fi ops l E H K=some r→Sim P hint sh Γ Pu H I→ER Γ Pu I E E'→
  ∃ E1 H1 Γ1 Pu1 E1' I1,K E1 H1=some r∧evOps P self fi ro ops l E' I D=some (.normal,E1',I1,D)∧ER Γ1 Pu1 I1 E1 E1'∧Sim P hint sh Γ1 Pu1 H1 I1∧Ex (Own Γ H I) Γ Pu H I Γ1 Pu1 H1 I1:=by
 intro l
 induction l with
 |nil=>intro E E' H I Γ Pu D K h hs he;exact ⟨E,H,Γ,Pu,E',I,h,rfl,he,hs,Ex.refl hs⟩
 |cons o rest ih=>
  intro E E' H I Γ Pu D K h hs he
  simp only [gOps] at h
  rcases gGuard_ok h he with ⟨hw,E2,h,he2,_⟩ | ⟨hw,E2,h,he2,_⟩
  ·obtain ⟨t,H1,Γ1,Pu1,v,I1,k1,k2,k3,k4,k5⟩:=gOp_ok hs ok (opdG_ok hs he2) h
   obtain ⟨E3,H2,Γ2,Pu2,E3',I2,j1,j2,j3,j4,j5⟩:=ih (D:=D) k1 k4 ((he2.mono (k5.keepV hs)).put fi o.dst k3)
   refine ⟨E3,H2,Γ2,Pu2,E3',I2,j1,?_,j3,j4,Ex.trans hs k4 k5 j5⟩
   rcases resV_some k2 with e | ⟨e,rfl⟩
   ·simp only [evOps,hw,e];exact j2
   ·simp only [evOps,hw,e];exact j2
  ·obtain ⟨E3,H2,Γ2,Pu2,E3',I2,j1,j2,j3,j4,j5⟩:=ih (D:=D) h hs (he2.put fi o.dst (.raw Go.undef))
   refine ⟨E3,H2,Γ2,Pu2,E3',I2,j1,?_,j3,j4,j5⟩
   simp only [evOps,hw];exact j2
def elT (P:Program) (o:Oper):TypeId:=match o.op with
 | .buildSlice t _ _=>match elemSize P t with
  |some (e,_)=>e
  |none=>0
 |_=>0
theorem bytesT_ok:∀ {cs:List TV} {bs:List UInt8} {vs:List Value},bytesT cs=some bs→GRs Γ Pu I cs vs→vs=bs.map fun c=>(.int .u8 c.toNat:Value):=by
 intro cs
 induction cs with
 |nil=>intro bs vs h hr;cases h;cases hr;rfl
 |cons c r ih=>
  intro bs vs h hr
  unfold bytesT at h
  split at h
  ·rename_i heq;cases heq
  ·rename_i c' r' heq
   cases heq
   split at h
   ·rename_i l hl
    cases h
    cases hr with |cons a b=>
    cases a
    rw [ih hl b];rfl
   ·cases h
  ·cases h
theorem pairB_ok {fi:FI} {ops:Array Oper} {E:GE} {E':En} {o o2:Oper} {d d2:Tmp} {bs:List UInt8} (hs:Sim P hint sh Γ Pu H I) (he:ER Γ Pu I E E') (h:pairB P fi E o o2=some (d,d2,bs)):
  ∃ v J,evOp P self (opd fi E') I o=some (.val v J)∧evOp P self (opd fi (putT fi E' (some d) v)) J o2=some (.val v (I.new (.cells (bs.map fun c=> .int .u8 c.toNat) (elT P o) 0 true true)))∧
   o.dst=some d∧o2.dst=some d2∧o.guard=none∧o2.guard=none∧
   GR Γ (fun b=>Pu b∨b=I.n) (I.new (.cells (bs.map fun c=> .int .u8 c.toNat) (elT P o) 0 true true)) (.lst .byte bs (some false) false) v:=by
 unfold pairB at h
 split at h
 ·rename_i t len parts src dst d' d0 d20 ho ho2 hd hd2 hg hg2
  replace h:=bif_some h;obtain ⟨hb,h⟩:=h
  replace hb:=Go.Gv.and_true hb;obtain ⟨hb,hb4⟩:=hb
  replace hb:=Go.Gv.and_true hb;obtain ⟨hb,hb3⟩:=hb
  replace hb:=Go.Gv.and_true hb;obtain ⟨hb1,hb2⟩:=hb
  have e1:=beq_true hb1;have e2:=beq_true hb2;have e3:=beq_true hb3
  have e4:d0<fi.nt:=by simpa using hb4
  split at h
  ·rename_i e0 e i hu hes
   split at h
   ·rename_i z hue hz
    replace h:=bif_some h;obtain ⟨hb,h⟩:=h
    replace hb:=Go.Gv.and_true hb;obtain ⟨hb,hc5⟩:=hb
    replace hb:=Go.Gv.and_true hb;obtain ⟨hb,hc4⟩:=hb
    replace hb:=Go.Gv.and_true hb;obtain ⟨hb,hc3⟩:=hb
    replace hb:=Go.Gv.and_true hb;obtain ⟨hc1,hc2⟩:=hb
    split at h
    ·rename_i cells hf
     obtain ⟨vs',hf',hr'⟩:=fillG_ok (vs:= ⟨reps z.cells.toList len⟩) hf hc2 (PsG.map (opdG_ok hs he) parts.toList) (repG_ok (convL_ok hc4) len)
     split at h
     ·rename_i bs0 hbs
      replace h:=bif_some h;obtain ⟨hlen,h⟩:=h
      cases h
      have hvs:=bytesT_ok hbs hr'
      have hl:=beq_true hlen
      subst e1 e2 e3
      have elt:elT P o=e:=by unfold elT;rw [ho];simp only [hes]
      have hlu:len<unk:=by
       have:=ble_true hc1
       have h2:len≤len*(i.size+1):=Nat.le_mul_of_pos_right _ (by omega)
       unfold unk
       have:(2:Nat)^24<2^64:=by decide
       omega
      refine ⟨.slice (some ⟨I.n,0,none⟩) len len,newCells I e vs'.toList,?_,?_,hd,hd2,hg,hg2,?_⟩
      ·unfold evOp
       simp only [ho,evBuildSlice,hes,hz]
       rw [if_pos (by simp [(PsG.map (opdG_ok hs he) parts.toList).ok hc2];exact ble_true hc1),if_pos (beq_true hc3),hf']
      ·rw [elt]
       unfold evOp
       simp only [ho2]
       have hop:opd fi (putT fi E' (some d) (.slice (some ⟨I.n,0,none⟩) len len)) (.tmp d)= .slice (some ⟨I.n,0,none⟩) len len:=by
        show lkE fi (putE fi d _ E') d=_
        rw [lkE_putE,if_pos ⟨rfl,e4⟩]
       rw [hop]
       simp only [evConvert,hu,evBytesAgain,beq_self_eq_true,if_true,hue]
       have hgn:(newCells I e vs'.toList).get I.n=some (.cells vs'.toList e 0 true false):=by unfold newCells;rw [IH.get_new,if_pos rfl]
       rw [hgn]
       simp only [beq_self_eq_true,Bool.or_false,Bool.and_true,hs.ro,decide_true,if_true]
       have:(newCells I e vs'.toList).put I.n (.cells vs'.toList e 0 true true)=I.new (.cells vs'.toList e 0 true true):=IH.new_put _ _ _
       rw [this,hvs]
      ·rw [elt]
       refine .lst ?_ (fun c hc=>by cases hc;rfl) (fun hc=>by cases hc)
       refine .inr (.inl ⟨I.n,0,len,_,e,0,true,true,by rw [←hl],.inr rfl,by rw [IH.get_new,if_pos rfl],.inr ⟨hlu,by omega,?_⟩,?_,?_⟩)
       ·simp [Sh.sz,hl]
       ·simp [Sh.sz]
       ·exact row_bytes
     ·cases h
    ·cases h
   ·cases h
  ·cases h
 ·cases h
theorem gOpsQ_ok (ok:SelfOK P hint sh sf self) {fi:FI} {ro:Option Nat} {ops:Array Oper}:∀ (n:Nat) {l:List Oper} {E:GE} {E':En} {H:GH} {I:IH} {Γ:Gam} {Pu:Nat→Prop} {D:List Deferred} {K:GE→GH→Option β},l.length≤n→gOpsQ std P sh sf fi ops l E H K=some r→Sim P hint sh Γ Pu H I→ER Γ Pu I E E'→
  ∃ E1 H1 Γ1 Pu1 E1' I1,K E1 H1=some r∧evOps P self fi ro ops l E' I D=some (.normal,E1',I1,D)∧ER Γ1 Pu1 I1 E1 E1'∧Sim P hint sh Γ1 Pu1 H1 I1∧Ex (Own Γ H I) Γ Pu H I Γ1 Pu1 H1 I1:=by
 intro n
 induction n with
 |zero=>
  intro l E E' H I Γ Pu D K hn h hs he
  cases l with
  |nil=>exact ⟨E,H,Γ,Pu,E',I,h,rfl,he,hs,Ex.refl hs⟩
  |cons=>exact absurd hn (by simp)
 |succ n ih=>
  intro l E E' H I Γ Pu D K hn h hs he
  have step:∀ {o:Oper} {rest:List Oper} {K2:GE→GH→Option β},rest.length≤n→
    (∀ E H,K2 E H=some r→∀ {E' I Γ Pu},Sim P hint sh Γ Pu H I→ER Γ Pu I E E'→∃ E1 H1 Γ1 Pu1 E1' I1,K E1 H1=some r∧evOps P self fi ro ops rest E' I D=some (.normal,E1',I1,D)∧ER Γ1 Pu1 I1 E1 E1'∧Sim P hint sh Γ1 Pu1 H1 I1∧Ex (Own Γ H I) Γ Pu H I Γ1 Pu1 H1 I1)→
    gGuard std fi ops o E (fun E=>gOp std P sh sf (opdG fi E) H o fun v H=>K2 (putGT fi E o.dst v) H) (fun E=>K2 (putGT fi E o.dst (.raw Go.undef)) H)=some r→
    ∃ E1 H1 Γ1 Pu1 E1' I1,K E1 H1=some r∧evOps P self fi ro ops (o::rest) E' I D=some (.normal,E1',I1,D)∧ER Γ1 Pu1 I1 E1 E1'∧Sim P hint sh Γ1 Pu1 H1 I1∧Ex (Own Γ H I) Γ Pu H I Γ1 Pu1 H1 I1:=by
   intro o rest K2 hr hk h
   rcases gGuard_ok h he with ⟨hw,E2,h,he2,_⟩ | ⟨hw,E2,h,he2,_⟩
   ·obtain ⟨t,H1,Γ1,Pu1,v,I1,k1,k2,k3,k4,k5⟩:=gOp_ok hs ok (opdG_ok hs he2) h
    obtain ⟨E3,H2,Γ2,Pu2,E3',I2,j1,j2,j3,j4,j5⟩:=hk _ _ k1 k4 ((he2.mono (k5.keepV hs)).put fi o.dst k3)
    refine ⟨E3,H2,Γ2,Pu2,E3',I2,j1,?_,j3,j4,Ex.trans hs k4 k5 j5⟩
    rcases resV_some k2 with e | ⟨e,rfl⟩
    ·simp only [evOps,hw,e];exact j2
    ·simp only [evOps,hw,e];exact j2
   ·obtain ⟨E3,H2,Γ2,Pu2,E3',I2,j1,j2,j3,j4,j5⟩:=hk _ _ h hs (he2.put fi o.dst (.raw Go.undef))
    refine ⟨E3,H2,Γ2,Pu2,E3',I2,j1,?_,j3,j4,j5⟩
    simp only [evOps,hw];exact j2
  match l,hn,h with
  | [],hn,h=>exact ⟨E,H,Γ,Pu,E',I,h,rfl,he,hs,Ex.refl hs⟩
  | [o],hn,h=>
   exact step (K2:=K) (rest:= []) (Nat.zero_le _) (fun E H hk {E' I Γ Pu} hs he=> ⟨E,H,Γ,Pu,E',I,hk,rfl,he,hs,Ex.refl hs⟩) h
  |o::o2::rest,hn,h=>
   simp only [gOpsQ] at h
   split at h
   ·rename_i d d2 bs hp
    obtain ⟨v,J,a1,a2,a3,a4,a5,a6,a7⟩:=pairB_ok (self:=self) (ops:=ops) hs he hp
    obtain ⟨s1,x1⟩:=hs.newPure (bs.map fun c=> .int .u8 c.toNat) (elT P o) 0 true true
    have he1:=((he.mono (x1.keepV hs)).put fi (some d) a7).put fi (some d2) a7
    obtain ⟨E3,H2,Γ2,Pu2,E3',I2,j1,j2,j3,j4,j5⟩:=ih (l:=rest) (D:=D) (by simp at hn;omega) h s1 he1
    refine ⟨E3,H2,Γ2,Pu2,E3',I2,j1,?_,j3,j4,Ex.trans hs s1 x1 j5⟩
    have w1:wantedI fi ops E' o=some true:=by unfold wantedI;rw [a5]
    have w2:wantedI fi ops (putT fi E' (some d) v) o2=some true:=by unfold wantedI;rw [a6]
    simp only [evOps,w1,a1,a3,w2,a2,a4]
    exact j2
   ·exact step (K2:=fun E H=>gOpsQ std P sh sf fi ops (o2::rest) E H K) (rest:=o2::rest) (by simp at hn ⊢;omega) (fun E H hk {E' I Γ Pu} hs he=>ih (by simp at hn ⊢;omega) hk hs he) h
def blkAt:Value→Option Nat
 | .pointer (some a)=>some a.block
 | .slice (some a) _ _=>some a.block
 |_=>none
theorem evLoad_eq {t:TypeId} {a v:Value} {J:IH} (h:evLoad P I t a=some (.val v J)) (hb:∀ b,blkAt a=some b→I2.get b=I.get b):evLoad P I2 t a=some (.val v I2):=by
 unfold evLoad at h ⊢
 split at h
 ·rename_i b off
  have hg:=hb b rfl
  have e:ldVar P I2 t b off=ldVar P I t b off:=by simp only [ldVar,IH.cellsAt,hg]
  rw [e]
  split at h
  ·rename_i v' hv
   cases h
   rfl
  ·cases h
 ·cases h
def nzS:Value→Bool
 | .slice _ l _=>l !=0
 |_=>true
theorem evConvert_eq {src dst:TypeId} {a v:Value} {J:IH} (h1:∀ e,¬ (P.underlying src=some .string∧P.underlying dst=some (.slice e))) (h2:∀ e e',¬ (P.underlying src=some (.slice e)∧P.underlying dst=some (.slice e')))
  (h:evConvert P I src dst a=some (.val v J)) (hb:∀ b,blkAt a=some b→nzS a=true→I2.get b=I.get b):evConvert P I2 src dst a=some (.val v I2):=by
 unfold evConvert at h ⊢
 split at h
 ·split at h
  ·cases h;rfl
  ·cases h
 ·split at h
  ·cases h;rfl
  ·cases h
 ·split at h
  ·cases h;rfl
  ·cases h
 ·rename_i hs hd
  exact absurd ⟨hs,hd⟩ (h1 _)
 ·rename_i hs hd
  exact absurd ⟨hs,hd⟩ (h2 _ _)
 ·unfold evToString at h ⊢
  split at h
  ·cases h;rfl
  ·rename_i b off len c hu
   split at h
   ·rename_i hl
    cases h
    rw [if_pos hl]
   ·rename_i hl
    have hg:=hb b rfl (by simp [nzS,hl])
    have e:I2.cellsAt b off len=I.cellsAt b off len:=by simp only [IH.cellsAt,hg]
    rw [if_neg hl,e]
    split at h
    ·rename_i cs hcs
     split at h
     ·rename_i bs hbs
      cases h
      rfl
     ·cases h
    ·cases h
  ·cases h
 ·unfold evToUnsafe at h ⊢
  split at h
  ·cases h;rfl
  ·rename_i b off
   have hg:=hb b rfl rfl
   rw [hg]
   split at h
   ·rename_i cs e f ex sd hc
    split at h
    ·rename_i hq
     cases h
     rw [if_pos hq]
    ·cases h
   ·cases h
  ·cases h
 ·unfold evFromUnsafe at h ⊢
  split at h
  ·cases h;rfl
  ·rename_i b off
   have hg:=hb b rfl rfl
   rw [hg]
   split at h
   ·rename_i cs e f ex sd hc
    split at h
    ·rename_i hq
     cases h
     rw [if_pos hq]
    ·cases h
   ·cases h
  ·cases h
 ·cases h
def plainV:Value→Bool
 | .int _ _ | .string _ | .bool _ | .agg _=>true
 |_=>false
theorem evEq_plain {t:TypeId} {a b:Value} (ha:plainV a=true) (hb:plainV b=true):evEq P I2 t a b=evEq P I t a b:=by
 cases a<;>first |(cases ha;done) |skip
 all_goals cases b<;>first |(cases hb;done) |skip
 all_goals
  unfold evEq
  cases P.underlying t with
  |none=>rfl
  |some d=>cases d<;>rfl
theorem evBin_eq {op:BinOp} {t:TypeId} {x y:Operand} {a b v:Value} {J:IH} (ha:plainV a=true) (hb:plainV b=true) (h:evBin P I op t x y a b=some (.val v J)):evBin P I2 op t x y a b=some (.val v I2):=by
 have heq:∀ neg,evEqOp P I neg t x y a b=some (.val v J)→evEqOp P I2 neg t x y a b=some (.val v I2):=by
  intro neg h
  have e:=evEq_plain (P:=P) (I:=I) (I2:=I2) (t:=t) ha hb
  simp only [evEqOp] at h ⊢
  split at h
  ·split at h
   ·rename_i hk;cases h;rw [if_pos hk]
   ·cases h
  ·cases h;rfl
  ·simp only [e]
   split at h
   ·cases h;rfl
   ·split at h
    ·rename_i hf
     rw [if_pos hf]
     split at h
     ·split at h
      ·rename_i hk;cases h;rw [if_pos hk]
      ·cases h
     ·cases h
    ·cases h
 simp only [evBin] at h ⊢
 split at h
 ·exact heq _ h
 ·exact heq _ h
 all_goals
  cases a<;>first |(cases ha;done) |skip
  all_goals cases b<;>first |(cases hb;done) |skip
  all_goals simp only [reduceCtorEq] at h ⊢
  all_goals first
   |done
   |(cases h;rfl)
   |(
     split at h
     ·first
      |(rename_i hk;cases h;rw [if_pos hk];done)
      |(
       split at h
       ·first
        |(rename_i hk;cases h;rw [if_pos hk];done)
        |(
          split at h
          ·rename_i hk;cases h;rw [if_pos hk]
          ·cases h)
       ·cases h)
     ·cases h)
theorem plainE_ok {t:TV} {v:Value} (h:plainE t=true) (hr:GR Γ Pu I t v):plainV v=true:=by
 cases hr<;>first |rfl |(cases h)
theorem valOf_any2 {o:Option Value} {v:Value} {J:IH} (h:Iv.valOf I o=some (.val v J)):Iv.valOf I2 o=some (.val v I2):=by
 unfold Iv.valOf at h ⊢
 split at h
 ·cases h;rfl
 ·cases h
theorem evPlainRun_eq {s:Sem Value} {v:Value} {J:IH} (h:evPlainRun P I s=some (.val v J)):evPlainRun P I2 s=some (.val v I2):=by
 unfold evPlainRun at h ⊢
 split at h
 ·split at h
  ·rename_i hk;cases h;rw [if_pos hk]
  ·cases h
 ·cases h
theorem evLen_eq {t:TypeId} {x:Value} (hx:(∃ s,x= .string s)∨(∃ a l c,x= .slice a l c)∨x= .map none∨∃ b,x= .map (some b)∧I2.get b=I.get b):evLen P I2 t x=evLen P I t x:=by
 unfold evLen
 rcases hx with ⟨s,rfl⟩ | ⟨a,l,c,rfl⟩ |rfl | ⟨b,rfl,hb⟩
 ·cases P.underlying t with
  |none=>rfl
  |some d=>cases d<;>rfl
 ·cases P.underlying t with
  |none=>rfl
  |some d=>cases d<;>rfl
 ·cases P.underlying t with
  |none=>rfl
  |some d=>cases d<;>rfl
 ·cases P.underlying t with
  |none=>rfl
  |some d=>cases d<;>simp only [hb]
theorem evLookup_eq {t:TypeId} {x k:Value} {ok:Bool} {v:Value} {J:IH} (h:evLookup P I t x k ok=some (.val v J)) (hb:∀ b,x= .map (some b)→I2.get b=I.get b):evLookup P I2 t x k ok=some (.val v I2):=by
 unfold evLookup at h ⊢
 split at h
 ·simp only [hb _ rfl]
  split at h
  ·rename_i es ck hg
   split at h
   ·rename_i hk
    rw [if_pos hk]
    split at h
    ·cases h;rfl
    ·split at h
     ·cases h;rfl
     ·cases h
    ·cases h
   ·cases h
  ·cases h
 ·split at h
  ·rename_i hk
   rw [if_pos hk]
   split at h
   ·cases h;rfl
   ·cases h
  ·cases h
 ·cases h
theorem Enc.slc_blk {e:Sh} {xs:List e.ty} {v:Value} (h:Enc Pu I (.slc e) xs [v]):v= .slice none 0 0∨∃ b off len cap,v= .slice (some ⟨b,off,none⟩) len cap∧(Pu b∨len=0):=by
 unfold Enc at h
 rcases h with ⟨_,h⟩ | ⟨b,off,cap,cs,et,fz,ex,sd,h,hb,_⟩ | ⟨_,b,h⟩
 ·cases h;exact .inl rfl
 ·cases h;exact .inr ⟨b,off,_,cap,rfl,.inl hb⟩
 ·cases h;exact .inr ⟨b,0,0,0,rfl,.inr rfl⟩
theorem slv_blk {l:Loc} {off len:Nat} {v:Value} (h:SlV l off len v):v= .slice none 0 0∨∃ b o o' n cap,v= .slice (some ⟨b,o,none⟩) n cap∧l.pos=some (b,o'):=by
 unfold SlV at h
 split at h
 ·exact .inl h.1
 ·rename_i b o hp
  obtain ⟨cap,rfl,_⟩:=h
  exact .inr ⟨b,_,o,_,cap,rfl,hp⟩
theorem read_eq {ρ:Operand→TV} {ρ':Operand→Value} {o:Oper} {ids:List Nat} {p:Bool} {v:Value} {J:IH} (hk:kindOf P o= .read) (ht:touched ρ o=some (ids,p)) (hρ:∀ x,GR Γ Pu I (ρ x) (ρ' x)) (h:evOp P self ρ' I o=some (.val v J))
  (h1:∀ id∈ids,∀ l b x,Γ id=some l→l.pos=some (b,x)→I2.get b=I.get b) (h2:p=true→∀ b,Pu b→I2.get b=I.get b):evOp P self ρ' I2 o=some (.val v I2):=by
 unfold touched at ht
 split at ht
 ·rename_i t a ho
  simp only [evOp,ho] at h ⊢
  have hv:=hρ a
  generalize ρ' a=w at hv h
  generalize ρ a=q at ht hv
  refine evLoad_eq h fun b hb=>?_
  split at ht
  ·cases ht
   cases hv with |ptr hl hp=>cases hb;exact h1 _ (List.mem_cons_self ..) _ _ _ hl hp
  ·cases ht
   cases hv with |elm hl hp=>cases hb;exact h1 _ (List.mem_cons_self ..) _ _ _ hl hp
  ·cases ht
   cases hv with |pel hb' _ _ _=>cases hb;exact h2 rfl _ hb'
  ·cases ht
 ·rename_i op t x y yt ho
  simp only [evOp,ho] at h ⊢
  replace ht:=bif_some ht
  obtain ⟨hc,ht⟩:=ht
  simp only [Bool.and_eq_true] at hc
  exact evBin_eq (plainE_ok hc.1 (hρ x)) (plainE_ok hc.2 (hρ y)) h
 ·rename_i t x k ok ho
  simp only [evOp,ho] at h ⊢
  have hv:=hρ x
  generalize ρ' x=w at hv h
  generalize ρ x=q at ht hv
  refine evLookup_eq h fun b hb=>?_
  split at ht
  ·cases ht
   cases hv with |mp hl hm=>
   unfold MpV at hm
   split at hm
   ·subst hm;cases hb
   ·rename_i b' x' hp
    subst hm;cases hb
    exact h1 _ (List.mem_cons_self ..) _ _ _ hl hp
  ·cases ht;cases hv;cases hb
  ·cases ht
 ·rename_i c ho
  obtain ⟨callee,args,ats⟩:=c
  simp only at ht
  split at ht
  ·split at ht
   ·rename_i x hx
    simp only [evOp,ho,evCallOp,hx,List.map_cons,List.map_nil,evBuiltin] at h ⊢
    have hv:=hρ x
    generalize ρ' x=w at hv h
    generalize ρ x=q at ht hv
    have hx:(∃ s,w= .string s)∨(∃ a l c,w= .slice a l c)∨w= .map none∨∃ b,w= .map (some b)∧I2.get b=I.get b:=by
     split at ht
     ·cases hv;exact .inl ⟨_,rfl⟩
     ·cases hv with |lst he _ _=>rcases he.slc_blk with h | ⟨_,_,_,_,h,_⟩<;>exact .inr (.inl ⟨_,_,_,h⟩)
     ·cases hv with |all _ he=>rcases slv_blk he with h | ⟨_,_,_,_,_,h,_⟩<;>exact .inr (.inl ⟨_,_,_,h⟩)
     ·cases hv with |own _ _ he=>rcases slv_blk he with h | ⟨_,_,_,_,_,h,_⟩<;>exact .inr (.inl ⟨_,_,_,h⟩)
     ·cases hv;exact .inr (.inl ⟨_,_,_,rfl⟩)
     ·cases hv with |mp hl hm=>
      cases ht
      unfold MpV at hm
      split at hm
      ·exact .inr (.inr (.inl hm))
      ·rename_i b _ hp
       exact .inr (.inr (.inr ⟨b,hm,h1 _ (List.mem_cons_self ..) _ _ _ hl hp⟩))
     ·cases ht
    split at h
    ·rename_i t hat
     simp only [evLen_eq (P:=P) (I:=I) (I2:=I2) hx]
     exact valOf_any2 h
    ·cases h
   ·cases ht
  ·simp only [evOp,ho,evCallOp,evBuiltin] at h ⊢
   split at h
   ·rename_i hf
    rw [if_pos hf]
    exact evPlainRun_eq h
   ·cases h
  ·simp only [evOp,ho,evCallOp,evBuiltin] at h ⊢
   split at h
   ·rename_i hf
    rw [if_pos hf]
    exact evPlainRun_eq h
   ·cases h
  ·simp only [evOp,ho,evCallOp] at h ⊢
   generalize args.toList.map ρ'=l at h ⊢
   unfold evBuiltin at h ⊢
   cases l with
   |nil=>simp at h
   |cons a r=>
    cases r with
    |cons b r=>simp at h
    |nil=>
     cases a with
     |slice q n k=>
      cases q with
      |none=>cases h;rfl
      |some q=>
       simp only at h ⊢
       split at h
       ·cases h
       ·rename_i hn;rw [if_neg hn];cases h;rfl
     |_=>simp at h
  ·cases ht
 ·rename_i src dst x ho
  simp only [evOp,ho] at h ⊢
  have hv:=hρ x
  generalize ρ' x=w at hv h
  generalize ρ x=q at ht hv
  refine evConvert_eq (fun e he=>?_) (fun e e' he=>?_) h fun b hb hnz=>?_
  ·simp only [kindOf,ho,he.1,he.2] at hk;cases hk
  ·simp only [kindOf,ho,he.1,he.2] at hk;cases hk
  ·split at ht
   ·cases ht
    cases hv with |all hl he=>
    rcases slv_blk he with rfl | ⟨_,_,_,_,_,rfl,hp⟩
    ·cases hb
    ·cases hb;exact h1 _ (List.mem_cons_self ..) _ _ _ hl hp
   ·cases ht
    cases hv with |own hl _ he=>
    rcases slv_blk he with rfl | ⟨_,_,_,_,_,rfl,hp⟩
    ·cases hb
    ·cases hb;exact h1 _ (List.mem_cons_self ..) _ _ _ hl hp
   ·cases hv;cases hb
   ·cases hv;cases hb
   ·cases hv;cases hb
   ·cases ht
    cases hv with |lst he _ _=>
    rcases he.slc_blk with rfl | ⟨_,_,_,_,rfl,hp⟩
    ·cases hb
    ·cases hb
     rcases hp with hp |rfl
     ·exact h2 rfl _ hp
     ·cases hnz
   ·cases ht
 ·cases ht
theorem same1G_ok {t:TV} {v:Value} (h:same1G t=true) (hr:GR Γ Pu I t v):same1 v v=true:=by
 cases hr with
 |lst he _ _=>rcases he.slc_blk with rfl | ⟨_,_,_,_,rfl,_⟩<;>simp [same1]
 |all _ he=>rcases slv_blk he with rfl | ⟨_,_,_,_,_,rfl,_⟩<;>simp [same1]
 |own _ _ he=>rcases slv_blk he with rfl | ⟨_,_,_,_,_,rfl,_⟩<;>simp [same1]
 |raw v=>unfold same1G at h;simp only at h;split at h<;>first |(simp [same1];done) |cases h
 |agg |tup |fn |yld |undef=>cases h
 |mp _ he=>obtain ⟨q,rfl⟩:=he.map;simp [same1]
 |_=>simp [same1]
theorem sameL_ok {cs:List TV} {vs:List Value} (h:cs.all same1G=true) (hr:GRs Γ Pu I cs vs):sameL vs vs=true:=by
 induction cs generalizing vs with
 |nil=>cases hr;rfl
 |cons c r ih=>
  cases hr with |cons a b=>
  simp only [List.all_cons,Bool.and_eq_true] at h
  simp only [sameL,same1G_ok h.1 a,ih h.2 b,Bool.and_self]
theorem sameV_of1 {v:Value} (h:same1 v v=true):sameV v v=true:=by
 cases v<;>first |exact h |cases h
theorem sameG_ok {t:TV} {v:Value} (h:sameG t=true) (hr:GR Γ Pu I t v):sameV v v=true:=by
 unfold sameG at h
 split at h
 ·cases hr with |agg hs=>exact sameL_ok h hs
 ·cases hr with |tup hs=>exact sameL_ok h hs
 ·cases hr with |fn ha hc=>
  simp only [Bool.and_eq_true] at h
  simp only [sameV,beq_self_eq_true,Bool.true_and]
  rw [sameL_ok h.1 ha,sameL_ok h.2 hc];rfl
 ·exact sameV_of1 (same1G_ok h hr)
theorem read_noskip {ρ':Operand→Value} {o:Oper} {J:IH} (hk:kindOf P o= .read):evOp P self ρ' I o≠some (.skip J):=by
 intro h
 cases ho:o.op with
 |load t a=>
  simp only [evOp,ho,evLoad] at h
  repeat' split at h
  all_goals cases h
 |lookup t x k ok=>
  simp only [evOp,ho,evLookup] at h
  repeat' split at h
  all_goals cases h
 |binOp op t x y yt=>
  simp only [evOp,ho,evBin,evEqOp] at h
  repeat' split at h
  all_goals cases h
 |convert src dst x=>
  simp only [evOp,ho,evConvert,evToString,evToUnsafe,evFromUnsafe,evToBytes] at h
  split at h
  all_goals first
   |(exfalso;rename_i e1 e2;simp only [kindOf,ho,e1,e2] at hk;cases hk;done)
   |(
     repeat' split at h
     all_goals cases h)
 |call c=>
  obtain ⟨callee,args,ats⟩:=c
  cases callee with
  |builtin b=>
   simp only [evOp,ho,evCallOp] at h
   unfold evBuiltin at h
   split at h
   all_goals first
    |(simp [kindOf,ho] at hk;done)
    |(
      simp only [evPlainRun,Iv.valOf] at h
      repeat' split at h
      all_goals cases h)
    |(
      repeat' split at h
      all_goals cases h)
  |value f=>simp [kindOf,ho] at hk
  |invoke r n=>simp [kindOf,ho] at hk
 |_=>simp [kindOf,ho] at hk
structure Beg where
 Γ:Gam
 Pu:Nat→Prop
 H:GH
 I:IH
structure Hi (Γ:Gam) (Pu:Nat→Prop) (H:GH) (I:IH) (Γ1:Gam) (Pu1:Nat→Prop) (H1:GH) (I1:IH):Prop where
 g:∀ id l,Γ id=some l→Γ1 id=some l
 p:∀ b,Pu b→Pu1 b
 i:∀ b,Pu b→I1.get b=I.get b
 hn:H.n≤H1.n
 ck:H.ck≤H1.ck
 stm:∀ id,id<H.n→H1.stamp id=none∨H1.stamp id=H.stamp id∨∃ s,H1.stamp id=some s∧H.ck≤s
 hist:∀ id l b x s,H.stamp id=some s→H1.stamp id=some s→Γ id=some l→l.pos=some (b,x)→I1.get b=I.get b
theorem Hi.refl:Hi Γ Pu H I Γ Pu H I:= ⟨fun _ _ h=>h,fun _ h=>h,fun _ _=>rfl,Nat.le_refl _,Nat.le_refl _,fun _ _=> .inr (.inl rfl),fun _ _ _ _ _ _ _ _ _=>rfl⟩
theorem Hi.of {O:Nat→Prop} (hs:Sim P hint sh Γ Pu H I) (h:Ex O Γ Pu H I Γ1 Pu1 H1 I1) (ho:∀ b,Pu b→¬ O b):Hi Γ Pu H I Γ1 Pu1 H1 I1:=
 ⟨h.g,h.p,fun b hb=>h.keep b (hs.pu_lt hb) (ho b hb),h.hn,h.ck,h.stm,h.hist⟩
theorem Hi.trans {Γ2:Gam} {Pu2:Nat→Prop} {H2:GH} (hs:Sim P hint sh Γ Pu H I) (h:Hi Γ Pu H I Γ1 Pu1 H1 I1) (k:Hi Γ1 Pu1 H1 I1 Γ2 Pu2 H2 I2):Hi Γ Pu H I Γ2 Pu2 H2 I2 where
 g:=fun id l x=>k.g id l (h.g id l x)
 p:=fun b x=>k.p b (h.p b x)
 i:=fun b hb=>(k.i b (h.p b hb)).trans (h.i b hb)
 hn:=Nat.le_trans h.hn k.hn
 ck:=Nat.le_trans h.ck k.ck
 stm:=fun id hid=>by
  rcases k.stm id (Nat.lt_of_lt_of_le hid h.hn) with x |x | ⟨s,x,y⟩
  ·exact .inl x
  ·rw [x];exact h.stm id hid
  ·exact .inr (.inr ⟨s,x,Nat.le_trans h.ck y⟩)
 hist:=fun id l b x s hs0 hs2 hl hp=>by
  have hid:=hs.dom id l hl
  have hlt:=hs.st id s hs0
  rcases k.stm id (Nat.lt_of_lt_of_le hid h.hn) with y |y | ⟨s',y,z⟩
  ·rw [y] at hs2;cases hs2
  ·rw [y] at hs2
   exact (k.hist id l b x s hs2 (y.trans hs2) (h.g id l hl) hp).trans (h.hist id l b x s hs0 hs2 hl hp)
  ·rw [y] at hs2;cases hs2
   have:=h.ck
   omega
theorem Hi.keepV (h:Hi Γ Pu H I Γ1 Pu1 H1 I1):Keep Γ Pu I Γ1 Pu1 I1:= ⟨h.g,h.p,h.i⟩
def Past (P:Program) (hint:Hint) (sh:ShT) (H0:GH) (I0:IH) (Γ:Gam) (Pu:Nat→Prop) (H:GH) (I:IH):Prop:=
 ∃ Γ0 Pu0,Sim P hint sh Γ0 Pu0 H0 I0∧Hi Γ0 Pu0 H0 I0 Γ Pu H I
theorem Past.step {H0:GH} {I0:IH} (h:Past P hint sh H0 I0 Γ Pu H I) (e:Hi Γ Pu H I Γ1 Pu1 H1 I1):Past P hint sh H0 I0 Γ1 Pu1 H1 I1:=by
 obtain ⟨Γ0,Pu0,s0,e0⟩:=h
 exact ⟨Γ0,Pu0,s0,Hi.trans s0 e0 e⟩
theorem sameSt_ok {f g:Nat→Option Nat} {ids:List Nat} (h:sameSt (ids.map f) (ids.map g)=true):∀ id∈ids,∃ s,f id=some s∧g id=some s:=by
 induction ids with
 |nil=>intro id hi;cases hi
 |cons a r ih=>
  simp only [List.map_cons] at h
  cases hf:f a with
  |none=>rw [hf] at h;cases h
  |some x=>
   cases hg:g a with
   |none=>rw [hf,hg] at h;cases h
   |some y=>
    rw [hf,hg] at h
    simp only [sameSt,Bool.and_eq_true] at h
    have:=Nat.eq_of_beq_eq_true h.1
    subst this
    intro id hi
    rcases List.mem_cons.1 hi with rfl |hi
    ·exact ⟨x,hf,hg⟩
    ·exact ih h.2 id hi
def PastO (P:Program) (hint:Hint) (sh:ShT) (o:Option GH) (I0:IH) (Γ:Gam) (Pu:Nat→Prop) (H:GH) (I:IH):Prop:=
 match o with
 |some H0=>Past P hint sh H0 I0 Γ Pu H I
 |none=>True
def SnR (P:Program) (hint:Hint) (sh:ShT) (B:Beg) (Γ:Gam) (Pu:Nat→Prop) (H:GH) (I:IH):List (Nat×Option GH)→List (Nat×IH)→Prop
 | [],[]=>True
 |(c,q)::r,(c',I0)::r'=>(c=c'∧(∀ b,B.Pu b→I0.get b=B.I.get b)∧PastO P hint sh q I0 Γ Pu H I)∧SnR P hint sh B Γ Pu H I r r'
 |_,_=>False
theorem SnR.step {B:Beg} {l:List (Nat×Option GH)} {l':List (Nat×IH)} (h:SnR P hint sh B Γ Pu H I l l') (e:Hi Γ Pu H I Γ1 Pu1 H1 I1):SnR P hint sh B Γ1 Pu1 H1 I1 l l':=by
 induction l generalizing l' with
 |nil=>cases l' with
  |nil=>trivial
  |cons _ _=>exact h.elim
 |cons p r ih=>cases l' with
  |nil=>exact h.elim
  |cons q r'=>
   obtain ⟨c,o⟩:=p
   obtain ⟨⟨h1,h2,h3⟩,h4⟩:=h
   refine ⟨⟨h1,h2,?_⟩,ih h4⟩
   cases o with
   |none=>trivial
   |some H0=>exact Past.step h3 e
theorem chained_ok {B:Beg} {m:Nat} {l:List (Nat×Option GH)} {l':List (Nat×IH)} (h:SnR P hint sh B Γ Pu H I l l') (hc:chainedG m l=true):chained m l'=true:=by
 induction l generalizing l' with
 |nil=>cases l' with
  |nil=>rfl
  |cons _ _=>exact h.elim
 |cons p r ih=>cases l' with
  |nil=>exact h.elim
  |cons q r'=>
   obtain ⟨⟨h1,h2,h3⟩,h4⟩:=h
   obtain ⟨c,H0⟩:=p
   obtain ⟨c',I0⟩:=q
   subst h1
   simp only [chainedG,Bool.and_eq_true] at hc
   simp only [chained,hc.1,ih h4 hc.2,Bool.and_self]
theorem okSnaps_ok {B:Beg} {fi:FI} {E:GE} {T:En} {o:Oper} {v:Value} {ids:List Nat} {p:Bool} {m:Nat} (hk:kindOf P o= .read) (hs:Sim P hint sh Γ Pu H I) (he:ER Γ Pu I E T) (ht:touched (opdG fi E) o=some (ids,p))
  (hv:evOp P self (opd fi T) I o=some (.val v I)) (hsame:sameV v v=true) {l:List (Nat×Option GH)} {l':List (Nat×IH)} (h:SnR P hint sh B Γ Pu H I l l') (hc:okSnapsG H ids p m l=true):okSnaps P self fi T o v m l'=true:=by
 induction l generalizing l' with
 |nil=>cases l' with
  |nil=>rfl
  |cons _ _=>exact h.elim
 |cons a r ih=>cases l' with
  |nil=>exact h.elim
  |cons b r'=>
   obtain ⟨⟨h1,h2,h3⟩,h4⟩:=h
   obtain ⟨c,q⟩:=a
   obtain ⟨c',I0⟩:=b
   subst h1
   simp only [okSnapsG,Bool.and_eq_true,Bool.or_eq_true] at hc
   simp only [okSnaps,ih h4 hc.2,Bool.and_true,Bool.or_eq_true]
   rcases hc.1 with hc |hq
   ·exact .inl hc
   ·right
    cases q with
    |none=>cases hq
    |some H0=>
     simp only [Bool.and_eq_true,Bool.not_eq_true'] at hq
     obtain ⟨hp,hst⟩:=hq
     obtain ⟨Γ0,Pu0,s0,e0⟩:=h3
     have:=read_eq (self:=self) (I2:=I0) hk ht (opdG_ok hs he) hv (fun id hi l b x hl hpos=>by
      obtain ⟨s,q1,q2⟩:=sameSt_ok hst id hi
      obtain ⟨ob,hob⟩:=GH.stamp_get q1
      obtain ⟨l0,hl0,_⟩:=s0.obj id ob hob
      have:=e0.g id l0 hl0
      cases this.symm.trans hl
      exact (e0.hist id l b x s q1 q2 hl0 hpos).symm) (fun hp'=>by rw [hp] at hp';cases hp')
     simp only [sameAt,valAt,this,hsame]
def RdOK (P:Program) (hint:Hint) (sh:ShT) (self:Self) (fi:FI) (Γ:Gam) (Pu:Nat→Prop) (H:GH) (I:IH) (g:GRd) (q:Rd):Prop:=
 g.i=q.i∧∃ Γ0 Pu0 H0 I0 E0 p,Sim P hint sh Γ0 Pu0 H0 I0∧Hi Γ0 Pu0 H0 I0 Γ Pu H I∧ER Γ0 Pu0 I0 E0 q.T∧kindOf P q.o= .read∧touched (opdG fi E0) q.o=some (g.ids,p)∧g.st=g.ids.map H0.stamp∧
  evOp P self (opd fi q.T) I0 q.o=some (.val q.v I0)∧sameV q.v q.v=true
def RdR (P:Program) (hint:Hint) (sh:ShT) (self:Self) (fi:FI) (Γ:Gam) (Pu:Nat→Prop) (H:GH) (I:IH):List GRd→List Rd→Prop
 | [],[]=>True
 |g::r,q::r'=>RdOK P hint sh self fi Γ Pu H I g q∧RdR P hint sh self fi Γ Pu H I r r'
 |_,_=>False
theorem RdR.step {fi:FI} {l:List GRd} {l':List Rd} (h:RdR P hint sh self fi Γ Pu H I l l') (e:Hi Γ Pu H I Γ1 Pu1 H1 I1):RdR P hint sh self fi Γ1 Pu1 H1 I1 l l':=by
 induction l generalizing l' with
 |nil=>cases l' with
  |nil=>trivial
  |cons _ _=>exact h.elim
 |cons p r ih=>cases l' with
  |nil=>exact h.elim
  |cons q r'=>
   obtain ⟨⟨h1,Γ0,Pu0,H0,I0,E0,pp,k1,k2,k3⟩,h3⟩:=h
   exact ⟨⟨h1,Γ0,Pu0,H0,I0,E0,pp,k1,Hi.trans k1 k2 e,k3⟩,ih h3⟩
theorem okReads_ok {fi:FI} {m:Nat} {l:List GRd} {l':List Rd} (h:RdR P hint sh self fi Γ Pu H I l l') (hc:okReadsG H m l=true):okReads P self fi I m l'=true:=by
 induction l generalizing l' with
 |nil=>cases l' with
  |nil=>rfl
  |cons _ _=>exact h.elim
 |cons g r ih=>cases l' with
  |nil=>exact h.elim
  |cons q r'=>
   obtain ⟨⟨h1,Γ0,Pu0,H0,I0,E0,p,s0,e0,he,hk,ht,hst,hv,hsame⟩,h3⟩:=h
   simp only [okReadsG,Bool.and_eq_true,Bool.or_eq_true] at hc
   simp only [okReads,ih h3 hc.2,Bool.and_true,Bool.or_eq_true]
   rcases hc.1 with hc |hq
   ·rw [h1] at hc;exact .inl hc
   ·right
    rw [hst] at hq
    have:=read_eq (self:=self) (I2:=I) hk ht (opdG_ok s0 he) hv (fun id hi l b x hl hpos=>by
     obtain ⟨s,q1,q2⟩:=sameSt_ok hq id hi
     exact e0.hist id l b x s q1 q2 hl hpos) (fun _ b hb=>e0.i b hb)
    simp only [sameAt,valAt,this,hsame]
theorem okSnaps_old {B:Beg} {fi:FI} {T:En} {o:Oper} {v:Value} {m:Nat} (h0:∀ I2,(∀ b,B.Pu b→I2.get b=B.I.get b)→evOp P self (opd fi T) I2 o=some (.val v I2)) (hsame:sameV v v=true)
  {l:List (Nat×Option GH)} {l':List (Nat×IH)} (h:SnR P hint sh B Γ Pu H I l l'):okSnaps P self fi T o v m l'=true:=by
 induction l generalizing l' with
 |nil=>cases l' with
  |nil=>rfl
  |cons _ _=>exact h.elim
 |cons a r ih=>cases l' with
  |nil=>exact h.elim
  |cons b r'=>
   obtain ⟨⟨h1,h2,h3⟩,h4⟩:=h
   obtain ⟨c,q⟩:=a
   obtain ⟨c',I0⟩:=b
   subst h1
   have:=h0 I0 h2
   simp only [okSnaps,ih h4,Bool.and_true,sameAt,valAt,this,hsame,Bool.or_true]
def OldR (fi:FI) (B:Beg) (young:List Nat) (E:GE) (T:En):Prop:=∀ t,memN young t=false→GR B.Γ B.Pu B.I (lkGE fi E t) (lkE fi T t)
theorem gr_put {fi:FI} {E:GE} {T:En} {d k:Nat} {t:TV} {v:Value} (h1:k=d→GR Γ Pu I t v) (h2:k≠d→GR Γ Pu I (lkGE fi E k) (lkE fi T k)):GR Γ Pu I (lkGE fi (putGE fi d t E) k) (lkE fi (putE fi d v T) k):=by
 by_cases hk:k=d
 ·subst hk
  have hv:=h1 rfl
  unfold lkGE lkE putGE putE
  cases hc:cls fi k with
  |out=>exact .undef _
  |loc=>
   show GR Γ Pu I (lkG (updG E.loc k t) k) (lk (Iv.upd T.loc k v) k)
   rw [lkG_updG,lk_upd,if_pos rfl,if_pos rfl];exact hv
  |tmp=>
   show GR Γ Pu I (lkG (.c k t E.tmp) k) (lk (.c k v T.tmp) k)
   simp only [lkG,lk,Nat.beq_refl,cond_true];exact hv
 ·have h:=h2 hk
  have hb:Nat.beq d k=false:=beq_ne (Ne.symm hk)
  have e1:lkGE fi (putGE fi d t E) k=lkGE fi E k:=by
   unfold lkGE putGE
   cases cls fi d<;>cases cls fi k<;>simp only [lkG_updG,if_neg hk,lkG,hb,cond_false]
  have e2:lkE fi (putE fi d v T) k=lkE fi T k:=by
   unfold lkE putE
   cases cls fi d<;>cases cls fi k<;>simp only [lk_upd,if_neg hk,lk,hb,cond_false]
  rw [e1,e2];exact h
theorem gr_know {fi:FI} {E:GE} {T:En} {d k:Nat} {t:TV} (h1:GR Γ Pu I t (lkE fi T d)) (h2:GR Γ Pu I (lkGE fi E k) (lkE fi T k)):GR Γ Pu I (lkGE fi (putGE fi d t E) k) (lkE fi T k):=by
 by_cases hk:k=d
 ·subst hk
  unfold lkGE putGE
  cases hc:cls fi k with
  |out=>exact .undef _
  |loc=>
   show GR Γ Pu I (lkG (updG E.loc k t) k) _
   rw [lkG_updG,if_pos rfl];exact h1
  |tmp=>
   show GR Γ Pu I (lkG (.c k t E.tmp) k) _
   simp only [lkG,Nat.beq_refl,cond_true];exact h1
 ·have hb:Nat.beq d k=false:=beq_ne (Ne.symm hk)
  have e1:lkGE fi (putGE fi d t E) k=lkGE fi E k:=by
   unfold lkGE putGE
   cases cls fi d<;>cases cls fi k<;>simp only [lkG_updG,if_neg hk,lkG,hb,cond_false]
  rw [e1];exact h2
theorem OldR.guard {fi:FI} {B:Beg} {young:List Nat} {E E2:GE} {T:En} (h:OldR fi B young E T) (hg:GSt fi E T E2):OldR fi B young E2 T:=by
 rcases hg with rfl | ⟨d,c,rfl,hd⟩
 ·exact h
 ·intro k hk
  exact gr_know (by rw [hd];exact .bool c) (h k hk)
theorem OldR.put {fi:FI} {B:Beg} {young:List Nat} {E:GE} {T:En} (h:OldR fi B young E T) {d:Option Tmp} {t:TV} {v:Value} (hv:GR B.Γ B.Pu B.I t v):OldR fi B young (putGT fi E d t) (putT fi T d v):=by
 cases d with
 |none=>exact h
 |some d=>exact fun k hk=>gr_put (fun _=>hv) fun _=>h k hk
theorem plain_any {t:TV} {v:Value} {Γ':Gam} {Pu':Nat→Prop} {I':IH} (hp:plainT t=true) (h:GR Γ Pu I t v):GR Γ' Pu' I' t v:=by
 cases h<;>first |(cases hp;done) |skip
 ·exact .int _ _
 ·exact .byte _
 ·exact .bool _
 ·exact .str _
theorem OldR.young {fi:FI} {B:Beg} {young:List Nat} {E:GE} {T:En} (h:OldR fi B young E T) {d:Option Tmp} {t:TV} {v:Value} (hv:GR Γ Pu I t v):OldR fi B (youngD (plainT t) d young) (putGT fi E d t) (putT fi T d v):=by
 unfold youngD
 cases hp:plainT t with
 |true=>exact h.put (plain_any hp hv)
 |false=>
  cases d with
  |none=>exact h
  |some d=>
   intro k hk
   simp only [cond_false,memN] at hk
   refine gr_put (fun e=>?_) fun _=>h k ?_
   ·subst e;simp at hk
   ·revert hk;cases memN young k<;>simp
theorem oldO_ok {fi:FI} {B:Beg} {young:List Nat} {E:GE} {T:En} (h:OldR fi B young E T) {x:Operand} (hx:oldO young x=true):GR B.Γ B.Pu B.I (opdG fi E x) (opd fi T x):=by
 cases x with
 |tmp t=>exact h t (by simpa [oldO] using hx)
 |_=>cases hx
theorem oldStep_ok {fi:FI} {B:Beg} {young:List Nat} {E:GE} {T:En} {o:Oper} {K:TV→GH→Option β} (h:OldR fi B young E T) (he:ER Γ Pu I E T) (hs:Sim P hint sh Γ Pu H I) (ho:oldStep (opdG fi E) young o=true) (hg:gOp std P sh sf (opdG fi E) H o K=some r):
  ∃ t v,K t H=some r∧GR B.Γ B.Pu B.I t v∧evOp P self (opd fi T) I o=some (.val v I):=by
 unfold oldStep at ho
 split at ho
 ·rename_i x hop
  simp only [gOp,hop] at hg
  exact ⟨_,_,hg,oldO_ok h ho,by simp only [evOp,hop]⟩
 ·rename_i x hop
  simp only [gOp,hop] at hg
  exact ⟨_,_,hg,oldO_ok h ho,by simp only [evOp,hop]⟩
 ·rename_i t x ix hop
  simp only [Bool.and_eq_true] at ho
  have h1:=oldO_ok h ho.1
  have h2:=opdG_ok (fi:=fi) hs he ix
  simp only [gOp,hop] at hg
  simp only [evOp,hop]
  have hc:=ho.2
  generalize opd fi T x=x' at h1
  generalize opd fi T ix=ix' at h2
  generalize opdG fi E x=gx at h1 hc hg
  generalize opdG fi E ix=gi at h2 hc hg
  split at hc
  ·rename_i e xs nl cl k i
   cases h2
   cases h1 with |lst hen _ _=>
   simp only [ixT] at hg
   rw [gIndexAddrN_lst] at hg
   unfold gIndexAddr at hg
   split at hg
   ·rename_i e2 e1;cases e1;cases e2
   ·rename_i e0 s0 xs0 _ _ _ i0 hu q1 q2
    cases q1
    cases q2
    split at hg
    ·rename_i inf hinf
     replace hg:=bif_some hg;obtain ⟨hb,hg⟩:=hg
     replace hg:=need_some hg;obtain ⟨hc,hg⟩:=hg
     replace hg:=opt_some hg;obtain ⟨y,hy,hg⟩:=hg
     obtain ⟨b,off,cap,rfl,hr⟩:=hen.at (Γ:=B.Γ) hy
     have hlt:i.toNat<xs.length:=(List.getElem?_eq_some_iff.1 hy).1
     simp only [evIndexAddr,hu,hinf,ix_ok (ile_true hc) hlt,if_true]
     rw [←beq_true hb]
     exact ⟨_,_,hg,hr,rfl⟩
    ·cases hg
   ·rename_i e2 e1;cases e1;cases e2
   ·rename_i e2 e1;cases e1;cases e2
   ·cases hg
  ·cases hc
 ·rename_i s x f hop
  simp only [Bool.and_eq_true] at ho
  have h1:=oldO_ok h ho.1
  simp only [gOp,hop] at hg
  simp only [evOp,hop]
  have hc:=ho.2
  generalize opd fi T x=x' at h1
  generalize opdG fi E x=gx at h1 hc hg
  split at hc
  ·rename_i cs
   cases h1 with |pel a b c d=>
   unfold gFieldAddr at hg
   split at hg
   ·rename_i fs hu
    split at hg
    ·rename_i fd hfd
     split at hg
     ·rename_i i hi
      cases hz:Nat.beq i.size 0 with
      |true=>rw [hz] at hg;cases hg
      |false=>
       rw [hz] at hg
       simp only [cond_false] at hg
       have hne:i.size≠0:=fun e=>by rw [e] at hz;cases hz
       replace hg:=bif_some hg;obtain ⟨hb,hg⟩:=hg
       have hl:=ble_true hb
       simp only [evFieldAddr,hu,hfd,hi,if_neg hne]
       refine ⟨_,_,hg,.pel a b (by simp;omega) ?_,rfl⟩
       have:=d.drop fd.offset
       rw [List.drop_take,List.drop_drop] at this
       simpa using this
     ·cases hg
    ·cases hg
   ·cases hg
  ·cases hc
 ·cases ho
theorem oldLoad_ok {fi:FI} {B:Beg} {young:List Nat} {E:GE} {T:En} {o:Oper} {K:TV→GH→Option β} (h:OldR fi B young E T) (ho:oldLoad (opdG fi E) young o=true) (hg:gOp std P sh sf (opdG fi E) H o K=some r):
  (∃ t v,K t H=some r∧GR B.Γ B.Pu B.I t v∧∀ I2,(∀ b,B.Pu b→I2.get b=B.I.get b)→evOp P self (opd fi T) I2 o=some (.val v I2))∧touched (opdG fi E) o=some ([],true):=by
 unfold oldLoad at ho
 split at ho
 ·rename_i t a hop
  simp only [Bool.and_eq_true] at ho
  have h1:=oldO_ok h ho.1
  simp only [gOp,hop] at hg
  simp only [evOp,hop,touched]
  have hc:=ho.2
  generalize opd fi T a=a' at h1
  generalize opdG fi E a=ga at h1 hc hg ⊢
  split at hc
  ·rename_i cs
   refine ⟨?_,rfl⟩
   cases h1 with |pel hpu hget hle hr=>
   rw [gLoadN_pel] at hg
   unfold gLoad at hg
   simp only at hg
   split at hg
   ·rename_i x hx
    obtain ⟨v,hv,hrv⟩:=ldVar_ok (P:=P) (t:=t) hget hle hr hx
    refine ⟨_,_,hg,hrv,fun I2 hI=>?_⟩
    refine evLoad_eq (I:=B.I) (J:=B.I) ?_ fun b hb=>?_
    ·simp only [evLoad,hv]
    ·cases hb;exact hI _ hpu
   ·cases hg
  ·cases hc
 ·cases ho
theorem overlay_get {n0 b:Nat}:∀ {l:List (Nat×IObj)} {H:IH},b<n0→(overlay n0 l H).get b=H.get b:=by
 intro l
 induction l with
 |nil=>intro H _;rfl
 |cons p r ih=>
  intro H hb
  obtain ⟨i,o⟩:=p
  show ((overlay n0 r H).put (n0+i) o).get b=_
  rw [IH.get_put,if_neg (by omega)];exact ih hb
theorem overlay_n {n0:Nat}:∀ {l:List (Nat×IObj)} {H:IH},(overlay n0 l H).n=H.n:=by
 intro l
 induction l with
 |nil=>intro H;rfl
 |cons p r ih=>intro H;exact ih
structure DInv (P:Program) (hint:Hint) (sh:ShT) (me:Self) (fi:FI) (B:Beg) (R i:Nat) (Γ:Gam) (Pu:Nat→Prop) (s:GDS) (s':DS):Prop where
 sim:Sim P hint sh Γ Pu s.H (overlay B.I.n s'.pend s'.H)
 env:ER Γ Pu (overlay B.I.n s'.pend s'.H) s.E s'.T
 pend:s'.pend.map (·.1)=s.pn
 sn:SnR P hint sh B Γ Pu s.H (overlay B.I.n s'.pend s'.H) s.snaps s'.snaps
 rd:RdR P hint sh me fi Γ Pu s.H (overlay B.I.n s'.pend s'.H) s.reads s'.reads
 old:OldR fi B s.young s.E s'.T
 bex:Ex (Own B.Γ B.H B.I) B.Γ B.Pu B.H B.I Γ Pu s.H (overlay B.I.n s'.pend s'.H)
 free:∀ j,i≤j→j<R→(overlay B.I.n s'.pend s'.H).get (B.I.n+j)=none
 room:B.I.n+R≤s'.H.n
 po:∀ j id,(j,id)∈s.po→∃ l,Γ id=some l∧l.pos=some (B.I.n+j,0)
theorem poG {Γ Γ1:Gam} {n0:Nat} {po:List (Nat×Nat)} (h:∀ j id,(j,id)∈po→∃ l,Γ id=some l∧l.pos=some (n0+j,0)) (hg:∀ id l,Γ id=some l→Γ1 id=some l):∀ j id,(j,id)∈po→∃ l,Γ1 id=some l∧l.pos=some (n0+j,0):=fun j id hm=>by
 obtain ⟨l,h1,h2⟩:=h j id hm
 exact ⟨l,hg id l h1,h2⟩
theorem Ex.hi (hs:Sim P hint sh Γ Pu H I) (h:Ex (Own Γ H I) Γ Pu H I Γ1 Pu1 H1 I1):Hi Γ Pu H I Γ1 Pu1 H1 I1:=Hi.of hs h fun b hb ho=>hs.sep b ho hb
theorem free_step (hs:Sim P hint sh Γ Pu H I) (h:Ex (Own Γ H I) Γ Pu H I Γ1 Pu1 H1 I1) {b:Nat} (hb:b<I.n) (hf:I.get b=none):I1.get b=none:=by
 rw [h.keep b hb fun ho=>by obtain ⟨o,ho⟩:=hs.own_some ho;rw [hf] at ho;cases ho];exact hf
theorem overlay_other {n0 b:Nat}:∀ {l:List (Nat×IObj)} {H:IH},(∀ x∈l,n0+x.1≠b)→(overlay n0 l H).get b=H.get b:=by
 intro l
 induction l with
 |nil=>intro H _;rfl
 |cons p r ih=>
  intro H h
  obtain ⟨i,o⟩:=p
  show ((overlay n0 r H).put (n0+i) o).get b=_
  rw [IH.get_put,if_neg (fun e=>h _ List.mem_cons_self e.symm)]
  exact ih fun x hx=>h x (List.mem_cons_of_mem _ hx)
theorem overlay_congr {n0 b:Nat} {H H':IH} (h:H.get b=H'.get b):∀ {l:List (Nat×IObj)},(overlay n0 l H).get b=(overlay n0 l H').get b:=by
 intro l
 induction l with
 |nil=>exact h
 |cons p r ih=>
  obtain ⟨i,o⟩:=p
  show ((overlay n0 r H).put (n0+i) o).get b=((overlay n0 r H').put (n0+i) o).get b
  rw [IH.get_put,IH.get_put,ih]
theorem overlay_part {n0 b m:Nat} {H:IH}:∀ {l:List (Nat×IObj)},(overlay n0 (l.filter fun x=> !m.testBit x.1) (overlay n0 (l.filter fun x=>m.testBit x.1) H)).get b=(overlay n0 l H).get b:=by
 intro l
 induction l with
 |nil=>rfl
 |cons p r ih=>
  obtain ⟨i,o⟩:=p
  have hr:(overlay n0 ((i,o)::r) H).get b=if b=n0+i then some o else (overlay n0 r H).get b:=by
   show ((overlay n0 r H).put (n0+i) o).get b=_
   rw [IH.get_put]
  rw [hr]
  cases hq:m.testBit i with
  |true=>
   simp only [List.filter_cons,hq,Bool.not_true,if_true,Bool.false_eq_true,if_false]
   by_cases hb:b=n0+i
   ·rw [if_pos hb,overlay_other]
    ·show ((overlay n0 _ H).put (n0+i) o).get b=_
     rw [IH.get_put,if_pos hb]
    ·intro x hx e
     have h2:=(List.mem_filter.1 hx).2
     have:x.1=i:=by omega
     rw [this,hq] at h2;cases h2
   ·rw [if_neg hb,←ih]
    refine overlay_congr ?_
    show ((overlay n0 _ H).put (n0+i) o).get b=_
    rw [IH.get_put,if_neg hb]
  |false=>
   simp only [List.filter_cons,hq,Bool.not_false,if_true,Bool.false_eq_true,if_false]
   show ((overlay n0 _ _).put (n0+i) o).get b=_
   rw [IH.get_put]
   by_cases hb:b=n0+i
   ·rw [if_pos hb,if_pos hb]
   ·rw [if_neg hb,if_neg hb];exact ih
theorem evStore_at {t:TypeId} {b off:Nat} {v:Value} (h:evStore P I t (.pointer (some ⟨b,off,none⟩)) v=some (.skip I1)):
  (I1=I∧∀ I2,evStore P I2 t (.pointer (some ⟨b,off,none⟩)) v=some (.skip I2))∨∃ ob,I1=I.put b ob∧∀ I2:IH,I2.get b=I.get b→evStore P I2 t (.pointer (some ⟨b,off,none⟩)) v=some (.skip (I2.put b ob)):=by
 unfold evStore at h
 simp only at h
 split at h
 ·rename_i J hJ
  cases h
  unfold stVar at hJ
  split at hJ
  ·rename_i i hi
   split at hJ
   ·rename_i hsz
    unfold IH.stCells at hJ
    split at hJ
    ·rename_i he
     cases hJ
     exact .inl ⟨rfl,fun I2=>by simp only [evStore,stVar,hi,hsz,if_true,IH.stCells,he]⟩
    ·rename_i he
     split at hJ
     ·rename_i cs e fz ex sh hg
      split at hJ
      ·rename_i hc
       cases hJ
       refine .inr ⟨_,rfl,fun I2 h2=>?_⟩
       simp only [evStore,stVar,hi,hsz,if_true,IH.stCells,he,h2,hg]
       rw [if_pos hc]
       simp
      ·cases hJ
     ·cases hJ
   ·cases hJ
  ·cases hJ
 ·cases h
theorem Sim.congrG {I2:IH} (hs:Sim P hint sh Γ Pu H I) (hg:∀ b,I2.get b=I.get b) (hn:I2.n=I.n):Sim P hint sh Γ Pu H I2∧Ex (Own Γ H I) Γ Pu H I Γ Pu H I2:=by
 have hkeep:Keep Γ Pu I Γ Pu I2:= ⟨fun _ _ h=>h,fun _ h=>h,fun b _=>hg b⟩
 exact ⟨⟨fun id o ho=>by
   obtain ⟨l,hl,_⟩:=hs.obj id o ho
   exact ⟨l,hl,hs.obj_keep hkeep ho hl fun _ b _=>hg b⟩,hs.injK (fun _ _ _ b _ _ _ _ _=>hg b),(fun b h=>hs.sep b (ownK (fun _ _ _ b _ _ _ _ _=>hg b) h)),hs.dom,fun b hb=>(hg b).trans (hs.fresh b (hn▸hb)),fun b hb=>by
   obtain ⟨cs,et,fz,ex,sd,h⟩:=hs.pu b hb
   exact ⟨cs,et,fz,ex,sd,(hg b).trans h⟩,hn▸hs.ro,hs.gn,hs.glob,hs.st,hs.tabK hkeep.p hkeep.i⟩,
  ⟨fun _ _ x=>x,Nat.le_refl _,Nat.le_of_eq hn.symm,fun _ x=>x,fun b _ _=>hg b,fun _ _ x=>ownK (fun _ _ _ b _ _ _ _ _=>hg b) x,fun _ _ x=> .inl x,Nat.le_refl _,fun _ _=> .inr (.inl rfl),fun _ _ b _ _ _ _ _ _=>hg b⟩⟩
theorem dropL_n:∀ {l:List Nat} {H:GH},(dropL l H).n=H.n∧(dropL l H).ck=H.ck:=by
 intro l
 induction l with
 |nil=>intro H;exact ⟨rfl,rfl⟩
 |cons a r ih=>intro H;exact ih (H:=H.del a)
theorem dropL_stamp {l:List Nat}:∀ {H:GH} {k:Nat},(dropL l H).stamp k=if k∈l then none else H.stamp k:=by
 induction l with
 |nil=>intro H k;simp [dropL]
 |cons a r ih=>
  intro H k
  show (dropL r (H.del a)).stamp k=_
  rw [ih,GH.stamp_del]
  by_cases h1:k∈r<;>by_cases h2:k=a<;>simp [h1,h2]
theorem lateOK_ok {po:List (Nat×Nat)} {js:List Nat} (h:lateOK H po js=true):∀ j∈js,∃ id kt gk ge k e xs em,(j,id)∈po∧id∈lateIds po js∧H.get id=some (.map kt gk ge k e xs em):=by
 have key:∀ js:List Nat,∀ j∈js,∀ p,po.find? (fun p=>Nat.beq p.1 j)=some p→p.2∈lateIds po js:=by
  intro js
  induction js with
  |nil=>intro j hj;cases hj
  |cons a r ih=>
   intro j hj p hp
   unfold lateIds
   rcases List.mem_cons.1 hj with rfl |hj
   ·rw [hp];exact List.mem_cons_self
   ·split
    ·exact List.mem_cons_of_mem _ (ih j hj p hp)
    ·exact ih j hj p hp
 intro j hj
 have h1:=List.all_eq_true.1 h j hj
 split at h1
 ·rename_i p hp
  have h2:=List.mem_of_find?_eq_some hp
  have h3:p.1=j:=beq_true (by have:=List.find?_some hp;simpa using this)
  unfold isMapO at h1
  split at h1
  ·rename_i kt gk ge k e xs em hg
   exact ⟨p.2,kt,gk,ge,k,e,xs,em,by rw [←h3];exact h2,key js j hj p hp,hg⟩
  ·cases h1
 ·cases h1
theorem gDrawStep_ok (ok:SelfOK P hint sh sf self) {fi:FI} {B:Beg} (hsB:Sim P hint sh B.Γ B.Pu B.H B.I) {ops:Array Oper} {R i m:Nat} {o:Oper} (hR:kindOf P o= .fresh→i<R) {s:GDS} {s':DS} {K:GDS→Option β} (h:gDrawStep std P sh sf fi ops i o m s K=some r) (hi:DInv P hint sh self fi B R i Γ Pu s s'):
  ∃ s1 s1' Γ1 Pu1,K s1=some r∧drawStep P self fi ops B.I.n i o m s'= .done s1'∧DInv P hint sh self fi B R (i+1) Γ1 Pu1 s1 s1':=by
 unfold gDrawStep at h
 unfold drawStep
 have kB:=hi.bex.keepV hsB
 have hfree:∀ j,i+1≤j→j<R→(overlay B.I.n s'.pend s'.H).get (B.I.n+j)=none:=fun j h1 h2=>hi.free j (by omega) h2
 rcases gGuard_ok h hi.env with ⟨hw,E2,h,he2,hG⟩ | ⟨hw,E2,h,he2,hG⟩
 ·have hold:=hi.old.guard hG
  simp only [hw]
  split at h
  ·rename_i hk
   simp only [hk]
   cases hos:oldStep (opdG fi E2) s.young o with
   |true=>
    rw [hos] at h
    simp only [cond_true] at h
    obtain ⟨t,v,k1,k2,e⟩:=oldStep_ok (self:=self) hold he2 hi.sim hos h
    obtain ⟨v',hv',hall⟩:=pure_any hk _ _ e
    cases hv'
    simp only at hall
    simp only [hall s'.H]
    exact ⟨_,_,Γ,Pu,k1,rfl,⟨hi.sim,he2.put fi o.dst (k2.mono kB),hi.pend,hi.sn,hi.rd,hold.put k2,hi.bex,hfree,hi.room,hi.po⟩⟩
   |false=>
    rw [hos] at h
    simp only [cond_false] at h
    obtain ⟨t,H1,Γ1,Pu1,v,I1,k1,k2,k3,k4,k5⟩:=gOp_ok hi.sim ok (opdG_ok hi.sim he2) h
    rcases resV_some k2 with e | ⟨e,rfl⟩
    ·obtain ⟨v',hv',hall⟩:=pure_any hk _ _ e
     cases hv'
     simp only at hall
     simp only [hall s'.H]
     have hh:=k5.hi hi.sim
     exact ⟨_,_,Γ1,Pu1,k1,rfl,⟨k4,(he2.mono (k5.keepV hi.sim)).put fi o.dst k3,hi.pend,hi.sn.step hh,hi.rd.step hh,hold.young k3,Ex.trans hsB hi.sim hi.bex k5,hfree,hi.room,poG hi.po k5.g⟩⟩
    ·obtain ⟨v',hv',_⟩:=pure_any hk _ _ e
     cases hv'
  ·rename_i hk
   simp only [hk]
   cases hos:oldLoad (opdG fi E2) s.young o with
   |true=>
    rw [hos] at h
    simp only [cond_true] at h
    obtain ⟨⟨t,v,k1,k2,e⟩,ht⟩:=oldLoad_ok (self:=self) hold hos h
    replace k1:=bif_some k1
    obtain ⟨hsm,k1⟩:=k1
    have hsv:=sameG_ok hsm k2
    have e1:=e s'.H fun b hb=>by rw [←overlay_get (l:=s'.pend) (hsB.pu_lt hb)];exact kB.i b hb
    have e2:=e (overlay B.I.n s'.pend s'.H) fun b hb=>kB.i b hb
    simp only [e1,okSnaps_old (self:=self) e hsv hi.sn,if_true]
    exact ⟨_,_,Γ,Pu,k1,rfl,⟨hi.sim,he2.put fi o.dst (k2.mono kB),hi.pend,hi.sn,
     ⟨⟨rfl,Γ,Pu,s.H,_,E2,true,hi.sim,.refl,he2,hk,ht,rfl,e2,hsv⟩,hi.rd⟩,hold.put k2,hi.bex,hfree,hi.room,hi.po⟩⟩
   |false=>
    rw [hos] at h
    simp only [cond_false] at h
    split at h
    ·rename_i ids p ht
     replace h:=bif_some h
     obtain ⟨hc,h⟩:=h
     simp only [Bool.and_eq_true] at hc
     obtain ⟨hpn,hc⟩:=hc
     obtain ⟨t,H1,Γ1,Pu1,v,I1,k1,k2,k3,k4,k5⟩:=gOp_ok hi.sim ok (opdG_ok hi.sim he2) h
     replace k1:=bif_some k1
     obtain ⟨hsm,k1⟩:=k1
     rcases resV_some k2 with e | ⟨e,rfl⟩
     ·have hI:=read_keep hk _ _ _ e
      subst hI
      have hsv:=sameG_ok hsm k3
      have e1:evOp P self (opd fi s'.T) s'.H o=some (.val v s'.H):=by
       rcases Bool.or_eq_true_iff.1 hpn with hq |hq
       ·have hp0:s'.pend= []:=by
         have:=hi.pend
         rw [List.isEmpty_iff.1 hq] at this
         exact List.map_eq_nil_iff.1 this
        rw [hp0] at e
        exact e
       ·simp only [Bool.and_eq_true,Bool.not_eq_true'] at hq
        obtain ⟨hq1,hq2⟩:=hq
        have:=List.isEmpty_iff.1 hq1
        subst this
        exact read_eq (self:=self) hk ht (opdG_ok hi.sim he2) e (fun id hid=>by cases hid) (fun hp'=>by rw [hq2] at hp';cases hp')
      simp only [e1,okSnaps_ok (self:=self) hk hi.sim he2 ht e hsv hi.sn hc,if_true]
      have hh:=k5.hi hi.sim
      exact ⟨_,_,Γ1,Pu1,k1,rfl,⟨k4,(he2.mono (k5.keepV hi.sim)).put fi o.dst k3,hi.pend,hi.sn.step hh,
       ⟨⟨rfl,Γ,Pu,s.H,_,E2,p,hi.sim,hh,he2,hk,ht,rfl,e,hsv⟩,hi.rd.step hh⟩,hold.young k3,Ex.trans hsB hi.sim hi.bex k5,hfree,hi.room,poG hi.po k5.g⟩⟩
     ·exact absurd e (read_noskip hk)
    ·cases h
  ·rename_i hk
   have hiR:=hR hk
   split at h
   ·rename_i t len ps hop
    simp only [gOp,hop] at h
    have hk0:=hi.free i (Nat.le_refl _) hiR
    have hroN:roN≤B.I.n+i:=Nat.le_trans hsB.ro (Nat.le_add_right _ _)
    obtain ⟨q,H1,Γ1,Pu1,v,ob,k1,k2,k3,k4,k5⟩:=gBuildSliceN_at hi.sim hk0 (by rw [overlay_n];have:=hi.room;omega) hroN h (PsG.map (opdG_ok hi.sim he2) _)
    have e1:evOp P self (opd fi s'.T) { s'.H with n:=B.I.n+i } o=some (.val v (({ s'.H with n:=B.I.n+i }:IH).new ob)):=by
     simp only [evOp,hop];exact k2 _ rfl
    have e2:(({ s'.H with n:=B.I.n+i }:IH).new ob).get (B.I.n+i)=some ob:=by rw [IH.get_new];exact if_pos rfl
    simp only [hk,e1,e2]
    have hh:=Hi.of hi.sim k5 fun b hb ho=>by
     rcases ho with ho |rfl
     ·exact hi.sim.sep b ho hb
     ·obtain ⟨cs,et,fz,ex,sd,hg⟩:=hi.sim.pu _ hb
      rw [hk0] at hg;cases hg
    refine ⟨_,_,Γ1,Pu1,k1,rfl,⟨k4,(he2.mono hh.keepV).put fi o.dst k3,?_,hi.sn.step hh,hi.rd.step hh,hold.young k3,Ex.trans2 hsB hi.bex k5 (fun b hb ho=>?_),fun j h1 h2=>?_,hi.room,poG hi.po k5.g⟩⟩
    ·simp only [List.map_cons,hi.pend]
    ·rcases ho with ho |rfl
     ·exact hi.bex.own b hb ho
     ·omega
    ·show ((overlay B.I.n s'.pend s'.H).put (B.I.n+i) ob).get (B.I.n+j)=none
     rw [IH.get_put,if_neg (by omega)]
     exact hfree j h1 h2
   ·rename_i et hop
    simp only [gOp,hop] at h
    have hk0:=hi.free i (Nat.le_refl _) hiR
    have hroN:roN≤B.I.n+i:=Nat.le_trans hsB.ro (Nat.le_add_right _ _)
    obtain ⟨q,H1,Γ1,Pu1,v,ob,k1,k2,k3,k4,k5⟩:=gAlloc_at hi.sim hk0 (by rw [overlay_n];have:=hi.room;omega) hroN h
    have e1:evOp P self (opd fi s'.T) { s'.H with n:=B.I.n+i } o=some (.val v (({ s'.H with n:=B.I.n+i }:IH).new ob)):=by
     simp only [evOp,hop];exact k2 _ rfl
    have e2:(({ s'.H with n:=B.I.n+i }:IH).new ob).get (B.I.n+i)=some ob:=by rw [IH.get_new];exact if_pos rfl
    simp only [hk,e1,e2]
    have hh:=Hi.of hi.sim k5 fun b hb ho=>by
     rcases ho with ho |rfl
     ·exact hi.sim.sep b ho hb
     ·obtain ⟨cs,et,fz,ex,sd,hg⟩:=hi.sim.pu _ hb
      rw [hk0] at hg;cases hg
    refine ⟨_,_,Γ1,Pu1,k1,rfl,⟨k4,(he2.mono hh.keepV).put fi o.dst k3,?_,hi.sn.step hh,hi.rd.step hh,hold.young k3,Ex.trans2 hsB hi.bex k5 (fun b hb ho=>?_),fun j h1 h2=>?_,hi.room,poG hi.po k5.g⟩⟩
    ·simp only [List.map_cons,hi.pend]
    ·rcases ho with ho |rfl
     ·exact hi.bex.own b hb ho
     ·omega
    ·show ((overlay B.I.n s'.pend s'.H).put (B.I.n+i) ob).get (B.I.n+j)=none
     rw [IH.get_put,if_neg (by omega)]
     exact hfree j h1 h2
   ·rename_i t lo co hop
    simp only [gOp,hop] at h
    have hk0:=hi.free i (Nat.le_refl _) hiR
    have hroN:roN≤B.I.n+i:=Nat.le_trans hsB.ro (Nat.le_add_right _ _)
    obtain ⟨q,H1,Γ1,Pu1,v,ob,k1,k2,k3,k4,k5⟩:=gMakeSliceN_at hi.sim hk0 (by rw [overlay_n];have:=hi.room;omega) hroN h (opdG_ok hi.sim he2 _) (opdG_ok hi.sim he2 _) (fun he=>by
   rename_i t l c
   unfold sameOpd at he
   split at he
   ·rw [beq_true he]
   ·cases he)
    have e1:evOp P self (opd fi s'.T) { s'.H with n:=B.I.n+i } o=some (.val v (({ s'.H with n:=B.I.n+i }:IH).new ob)):=by
     simp only [evOp,hop];exact k2 _ rfl
    have e2:(({ s'.H with n:=B.I.n+i }:IH).new ob).get (B.I.n+i)=some ob:=by rw [IH.get_new];exact if_pos rfl
    simp only [hk,e1,e2]
    have hh:=Hi.of hi.sim k5 fun b hb ho=>by
     rcases ho with ho |rfl
     ·exact hi.sim.sep b ho hb
     ·obtain ⟨cs,et,fz,ex,sd,hg⟩:=hi.sim.pu _ hb
      rw [hk0] at hg;cases hg
    refine ⟨_,_,Γ1,Pu1,k1,rfl,⟨k4,(he2.mono hh.keepV).put fi o.dst k3,?_,hi.sn.step hh,hi.rd.step hh,hold.young k3,Ex.trans2 hsB hi.bex k5 (fun b hb ho=>?_),fun j h1 h2=>?_,hi.room,poG hi.po k5.g⟩⟩
    ·simp only [List.map_cons,hi.pend]
    ·rcases ho with ho |rfl
     ·exact hi.bex.own b hb ho
     ·omega
    ·show ((overlay B.I.n s'.pend s'.H).put (B.I.n+i) ob).get (B.I.n+j)=none
     rw [IH.get_put,if_neg (by omega)]
     exact hfree j h1 h2
   ·rename_i t n hop
    simp only [gOp,hop] at h
    have hk0:=hi.free i (Nat.le_refl _) hiR
    have hroN:roN≤B.I.n+i:=Nat.le_trans hsB.ro (Nat.le_add_right _ _)
    obtain ⟨q,H1,Γ1,Pu1,v,ob,k1,k2,k3,k4,k5,k6⟩:=gMakeMapN_at hi.sim hk0 (by rw [overlay_n];have:=hi.room;omega) hroN h (OptR.map (opdG_ok hi.sim he2) _)
    have e1:evOp P self (opd fi s'.T) { s'.H with n:=B.I.n+i } o=some (.val v (({ s'.H with n:=B.I.n+i }:IH).new ob)):=by
     simp only [evOp,hop];exact k2 _ rfl
    have e2:(({ s'.H with n:=B.I.n+i }:IH).new ob).get (B.I.n+i)=some ob:=by rw [IH.get_new];exact if_pos rfl
    simp only [hk,e1,e2]
    have hh:=Hi.of hi.sim k5 fun b hb ho=>by
     rcases ho with ho |rfl
     ·exact hi.sim.sep b ho hb
     ·obtain ⟨cs,et,fz,ex,sd,hg⟩:=hi.sim.pu _ hb
      rw [hk0] at hg;cases hg
    refine ⟨_,_,Γ1,Pu1,k1,rfl,⟨k4,(he2.mono hh.keepV).put fi o.dst k3,?_,hi.sn.step hh,hi.rd.step hh,hold.young k3,Ex.trans2 hsB hi.bex k5 (fun b hb ho=>?_),fun j h1 h2=>?_,hi.room,fun j id hm=>?_⟩⟩
    ·simp only [List.map_cons,hi.pend]
    ·rcases ho with ho |rfl
     ·exact hi.bex.own b hb ho
     ·omega
    ·show ((overlay B.I.n s'.pend s'.H).put (B.I.n+i) ob).get (B.I.n+j)=none
     rw [IH.get_put,if_neg (by omega)]
     exact hfree j h1 h2
    ·rcases List.mem_cons.1 hm with hm |hm
     ·cases hm;exact k6
     ·exact poG hi.po k5.g j id hm
   ·cases h
  ·rename_i hk
   replace h:=bif_some h
   obtain ⟨hc,h⟩:=h
   cases hall:s.pn.all (fun j=>m.testBit j) with
   |true=>
    rw [hall] at h
    simp only [cond_true] at h
    obtain ⟨t,H1,Γ1,Pu1,v,I1,k1,k2,k3,k4,k5⟩:=gOp_ok hi.sim ok (opdG_ok hi.sim he2) h
    replace k1:=bif_some k1
    obtain ⟨hr,k1⟩:=k1
    have hmem:∀ x∈s'.pend,m.testBit x.1=true:=fun x hx=>List.all_eq_true.1 hall x.1 (by rw [←hi.pend];exact List.mem_map.2 ⟨x,hx,rfl⟩)
    have f1:(s'.pend.filter fun x=>m.testBit x.1)=s'.pend:=List.filter_eq_self.2 hmem
    have f2:(s'.pend.filter fun x=> !m.testBit x.1)= []:=List.filter_eq_nil_iff.2 fun x hx=>by rw [hmem x hx];exact Bool.false_ne_true
    simp only [hk,chained_ok hi.sn hc,if_true,f1,f2]
    have hh:=k5.hi hi.sim
    have hrd:=hi.rd.step hh
    have hr':=okReads_ok hrd hr
    have hB1:∀ b,B.Pu b→s'.H.get b=B.I.get b:=fun b hb=>by rw [←overlay_get (l:=s'.pend) (hsB.pu_lt hb)];exact kB.i b hb
    have hpo:PastO P hint sh (bif s.pn.isEmpty then some s.H else none) s'.H Γ1 Pu1 H1 I1:=by
     cases hq:s.pn.isEmpty with
     |false=>trivial
     |true=>
      have hp0:s'.pend= []:=by
       have:=hi.pend
       rw [List.isEmpty_iff.1 hq] at this
       exact List.map_eq_nil_iff.1 this
      have hsim:=hi.sim
      rw [hp0] at hsim hh
      exact ⟨Γ,Pu,hsim,hh⟩
    have hroom:B.I.n+R≤I1.n:=Nat.le_trans (by rw [overlay_n];exact hi.room) k5.n
    have hf1:∀ j,i+1≤j→j<R→I1.get (B.I.n+j)=none:=fun j h1 h2=>free_step hi.sim k5 (by rw [overlay_n];have:=hi.room;omega) (hfree j h1 h2)
    rcases resV_some k2 with e | ⟨e,rfl⟩
    ·simp only [e,hr',if_true]
     exact ⟨_,_,Γ1,Pu1,k1,rfl,⟨k4,(he2.mono (k5.keepV hi.sim)).put fi o.dst k3,rfl,⟨⟨rfl,hB1,hpo⟩,hi.sn.step hh⟩,hrd,hold.young k3,Ex.trans hsB hi.sim hi.bex k5,hf1,hroom,poG hi.po k5.g⟩⟩
    ·simp only [e,hr',if_true]
     exact ⟨_,_,Γ1,Pu1,k1,rfl,⟨k4,(he2.mono (k5.keepV hi.sim)).put fi o.dst k3,rfl,⟨⟨rfl,hB1,hpo⟩,hi.sn.step hh⟩,hrd,hold.young k3,Ex.trans hsB hi.sim hi.bex k5,hf1,hroom,poG hi.po k5.g⟩⟩
   |false=>
    rw [hall] at h
    simp only [cond_false] at h
    replace h:=bif_some h
    obtain ⟨hlate,h⟩:=h
    unfold lateSt at hlate
    split at hlate
    ·rename_i t a w hop
     split at hlate
     ·rename_i id off ha
      split at hlate
      ·rename_i cet ccs hg
       obtain ⟨t',H1,Γ1,Pu1,v',I1,k1,k2,k3,k4,k5⟩:=gOp_ok hi.sim ok (opdG_ok hi.sim he2) h
       replace k1:=bif_some k1
       obtain ⟨hr,k1⟩:=k1
       replace hr:=Go.Gv.and_true hr
       obtain ⟨hl1,hr⟩:=hr
       have hra:=opdG_ok (fi:=fi) hi.sim he2 a
       rw [ha] at hra
       have hra':∃ b l,Γ id=some l∧l.pos=some (b,0)∧opd fi s'.T a= .pointer (some ⟨b,off,none⟩):=by
        generalize opd fi s'.T a=q at hra
        cases hra with |ptr x y=>exact ⟨_,_,x,y,rfl⟩
       obtain ⟨b,l,hl,hp,hae⟩:=hra'
       simp only [evOp,hop,hae] at k2
       have hnb:∀ x∈s'.pend.filter (fun x=> !m.testBit x.1),B.I.n+x.1≠b:=fun x hx e=>by
        have hx':x.1∈s.pn.filter (fun j=> !m.testBit j):=List.mem_filter.2 ⟨by rw [←hi.pend];exact List.mem_map.2 ⟨x,(List.mem_filter.1 hx).1,rfl⟩,(List.mem_filter.1 hx).2⟩
        obtain ⟨id2,kt,gk,ge,k,e2,xs,em,q1,_,q3⟩:=lateOK_ok hlate _ hx'
        obtain ⟨l2,q4,q5⟩:=hi.po _ _ q1
        have:=hi.sim.injP id id2 _ _ l l2 b 0 0 hg q3 rfl rfl hl q4 hp (by rw [q5,e])
        rw [this,q3] at hg
        cases hg
       have hev:resV (evStore P (overlay B.I.n s'.pend s'.H) t (.pointer (some ⟨b,off,none⟩)) (opd fi s'.T w))=some (v',I1)→evStore P (overlay B.I.n s'.pend s'.H) t (.pointer (some ⟨b,off,none⟩)) (opd fi s'.T w)=some (.skip I1)∧v'=Go.undef:=fun q=>by
        rcases resV_some q with e |e
        ·unfold evStore at e
         simp only at e
         split at e<;>cases e
        ·exact e
       obtain ⟨e,rfl⟩:=hev k2
       have hIa:(overlay B.I.n (s'.pend.filter fun x=>m.testBit x.1) s'.H).get b=(overlay B.I.n s'.pend s'.H).get b:=(overlay_other hnb).symm.trans overlay_part
       obtain ⟨Ia1,e1,hG,hnA⟩:∃ Ia1,evStore P (overlay B.I.n (s'.pend.filter fun x=>m.testBit x.1) s'.H) t (.pointer (some ⟨b,off,none⟩)) (opd fi s'.T w)=some (.skip Ia1)∧(∀ x,(overlay B.I.n (s'.pend.filter fun x=> !m.testBit x.1) Ia1).get x=I1.get x)∧Ia1.n=I1.n:=by
        rcases evStore_at e with ⟨rfl,hall⟩ | ⟨ob,rfl,hall⟩
        ·exact ⟨_,hall _,fun x=>overlay_part,by rw [overlay_n,overlay_n]⟩
        ·refine ⟨_,hall _ hIa,fun x=>?_,by simp only [IH.n_put,overlay_n]⟩
         by_cases hx:x=b
         ·subst hx
          rw [overlay_other hnb,IH.get_put,IH.get_put,if_pos rfl,if_pos rfl]
         ·rw [IH.get_put (overlay B.I.n s'.pend s'.H),if_neg hx]
          exact (overlay_congr (by rw [IH.get_put,if_neg hx])).trans overlay_part
       have e1':evOp P self (opd fi s'.T) (overlay B.I.n (s'.pend.filter fun x=>m.testBit x.1) s'.H) o=some (.skip Ia1):=by
        simp only [evOp,hop,hae];exact e1
       have hn2:(overlay B.I.n (s'.pend.filter fun x=> !m.testBit x.1) Ia1).n=I1.n:=by rw [overlay_n];exact hnA
       obtain ⟨s2,x2⟩:=k4.congrG hG hn2
       have hh:=k5.hi hi.sim
       have hh2:=x2.hi k4
       have hrd:=hi.rd.step hh
       have hpo1:=poG hi.po k5.g
       have late:∀ x∈s'.pend.filter (fun x=> !m.testBit x.1),∃ id2 l2,id2∈lateIds s.po (s.pn.filter fun j=> !m.testBit j)∧(∃ o2,H1.get id2=some o2∧o2.mut=true)∧Γ1 id2=some l2∧l2.pos=some (B.I.n+x.1,0):=fun x hx=>by
        have hx':x.1∈s.pn.filter (fun j=> !m.testBit j):=List.mem_filter.2 ⟨by rw [←hi.pend];exact List.mem_map.2 ⟨x,(List.mem_filter.1 hx).1,rfl⟩,(List.mem_filter.1 hx).2⟩
        obtain ⟨id2,kt,gk,ge,k,e2,xs,em,q1,q2,q3⟩:=lateOK_ok hl1 _ hx'
        obtain ⟨l2,q4,q5⟩:=hpo1 _ _ q1
        exact ⟨id2,l2,q2,⟨_,q3,rfl⟩,q4,q5⟩
       have hiD:Hi Γ1 Pu1 H1 I1 Γ1 Pu1 (dropL (lateIds s.po (s.pn.filter fun j=> !m.testBit j)) H1) Ia1:=by
        have same:∀ b,(∀ x∈s'.pend.filter (fun x=> !m.testBit x.1),B.I.n+x.1≠b)→Ia1.get b=I1.get b:=fun b hb=>by rw [←hG b,overlay_other hb]
        refine ⟨fun _ _ h=>h,fun _ h=>h,fun b hb=>same b fun x hx e=>?_,Nat.le_of_eq dropL_n.1.symm,Nat.le_of_eq dropL_n.2.symm,fun id _=>?_,fun id l b x s0 h1 h2 h3 h4=>same b fun y hy e=>?_⟩
        ·obtain ⟨id2,l2,q1,⟨o2,q2,q3⟩,q4,q5⟩:=late x hx
         exact k4.sep b (.pos q2 q3 q4 (by rw [q5,e])) hb
        ·rw [dropL_stamp]
         split
         ·exact .inl rfl
         ·exact .inr (.inl rfl)
        ·obtain ⟨id2,l2,q1,⟨o2,q2,q3⟩,q4,q5⟩:=late y hy
         obtain ⟨oo,h5⟩:=GH.stamp_get h1
         obtain ⟨l',h6,h7⟩:=k4.obj id oo h5
         cases h3.symm.trans h6
         cases hm:oo.mut with
         |true=>
          have:=k4.injP id id2 _ _ l l2 b x 0 h5 q2 hm q3 h3 q4 h4 (by rw [q5,e])
          rw [dropL_stamp,if_pos (this▸q1)] at h2
          cases h2
         |false=>exact k4.sep b (.pos q2 q3 q4 (by rw [q5,e])) (h7.rest hm (.inl ⟨x,h4⟩))
       have hr':=okReads_ok (hrd.step hiD) hr
       have hB1:∀ b,B.Pu b→s'.H.get b=B.I.get b:=fun b hb=>by rw [←overlay_get (l:=s'.pend) (hsB.pu_lt hb)];exact kB.i b hb
       have hf1:∀ j,i+1≤j→j<R→I1.get (B.I.n+j)=none:=fun j h1 h2=>free_step hi.sim k5 (by rw [overlay_n];have:=hi.room;omega) (hfree j h1 h2)
       have hroom:B.I.n+R≤Ia1.n:=by rw [hnA];exact Nat.le_trans (by rw [overlay_n];exact hi.room) k5.n
       have hH:=Hi.trans hi.sim hh hh2
       simp only [hk,chained_ok hi.sn hc,if_true,e1',hr']
       refine ⟨_,_,Γ1,Pu1,k1,rfl,⟨s2,((he2.mono (k5.keepV hi.sim)).put fi o.dst k3).mono hh2.keepV,?_,⟨⟨rfl,hB1,trivial⟩,hi.sn.step hH⟩,hi.rd.step hH,hold.young k3,Ex.trans hsB k4 (Ex.trans hsB hi.sim hi.bex k5) x2,fun j h1 h2=>(hG _).trans (hf1 j h1 h2),hroom,hpo1⟩⟩
       rw [←hi.pend,List.filter_map];rfl
      ·cases hlate
     ·cases hlate
    ·cases hlate
 ·simp only [hw]
  exact ⟨_,_,Γ,Pu,h,rfl,⟨hi.sim,he2.put fi o.dst (.raw Go.undef),hi.pend,hi.sn,hi.rd,(hi.old.guard hG).put (.raw Go.undef),hi.bex,hfree,hi.room,hi.po⟩⟩
theorem gDrawOps_ok (ok:SelfOK P hint sh sf self) {fi:FI} {B:Beg} (hsB:Sim P hint sh B.Γ B.Pu B.H B.I) {ops:Array Oper} {R:Nat}:∀ {l:List Oper} {i:Nat} {ms:List Nat} {s:GDS} {s':DS} {Γ:Gam} {Pu:Nat→Prop} {K:GDS→Option β},(∀ o∈l,kindOf P o= .fresh→i+l.length≤R)→gDrawOps std P sh sf fi ops l i ms s K=some r→DInv P hint sh self fi B R i Γ Pu s s'→
  ∃ s1 s1' Γ1 Pu1 i1,K s1=some r∧evDrawOps P self fi ops B.I.n l i ms s' none= .done s1'∧DInv P hint sh self fi B R i1 Γ1 Pu1 s1 s1':=by
 intro l
 induction l with
 |nil=>intro i ms s s' Γ Pu K _ h hi;exact ⟨s,s',Γ,Pu,i,h,by cases ms<;>rfl,hi⟩
 |cons o rest ih=>
  intro i ms s s' Γ Pu K hl h hi
  cases ms with
  |nil=>cases h
  |cons m ms=>
   simp only [gDrawOps] at h
   obtain ⟨s1,s1',Γ1,Pu1,k1,k2,k3⟩:=gDrawStep_ok ok hsB (fun hk=>by have:=hl o (List.mem_cons_self ..) hk;simp at this;omega) h hi
   obtain ⟨s2,s2',Γ2,Pu2,i2,j1,j2,j3⟩:=ih (fun o' ho' hk=>by have:=hl o' (List.mem_cons_of_mem _ ho') hk;simp at this;omega) k1 k3
   refine ⟨s2,s2',Γ2,Pu2,i2,j1,?_,j3⟩
   simp only [evDrawOps,k2]
   exact j2
theorem gDraw_ok (ok:SelfOK P hint sh sf self) {fi:FI} {ops:Array Oper} {E:GE} {E':En} {D:List Deferred} {K:GE→GH→Option β} (h:gDraw std P sh sf fi ops E H K=some r) (hs:Sim P hint sh Γ Pu H I) (he:ER Γ Pu I E E'):
  ∃ E1 H1 Γ1 Pu1 E1' I1,K E1 H1=some r∧evDraw P self fi ops E' I D=some (.normal,E1',I1,D)∧ER Γ1 Pu1 I1 E1 E1'∧Sim P hint sh Γ1 Pu1 H1 I1∧Ex (Own Γ H I) Γ Pu H I Γ1 Pu1 H1 I1:=by
 unfold gDraw at h
 replace h:=bif_some h
 obtain ⟨hc,h⟩:=h
 have hold:OldR fi ⟨Γ,Pu,H,I⟩ [] E E':=fun t _=>by
  unfold lkGE lkE
  cases cls fi t with
  |out=>exact .undef _
  |loc=>exact (he t).1
  |tmp=>exact (he t).2
 have hget:∀ b,({ I with n:=I.n+resv P ops }:IH).get b=I.get b:=fun b=>rfl
 have hkeep:Keep Γ Pu I Γ Pu { I with n:=I.n+resv P ops }:= ⟨fun _ _ h=>h,fun _ h=>h,fun _ _=>rfl⟩
 have hs1:Sim P hint sh Γ Pu H { I with n:=I.n+resv P ops }:= ⟨fun id o ho=>by
   obtain ⟨l,hl,_⟩:=hs.obj id o ho
   exact ⟨l,hl,hs.obj_keep hkeep ho hl fun _ _ _=>rfl⟩,hs.injK (fun _ _ _ _ _ _ _ _ _=>rfl),(fun b h=>hs.sep b (ownK (fun _ _ _ _ _ _ _ _ _=>rfl) h)),hs.dom,fun b hb=>hs.fresh b (Nat.le_trans (Nat.le_add_right _ _) hb),hs.pu,Nat.le_trans hs.ro (Nat.le_add_right _ _),hs.gn,hs.glob,hs.st,hs.tabK hkeep.p hkeep.i⟩
 have hb1:Ex (Own Γ H I) Γ Pu H I Γ Pu H { I with n:=I.n+resv P ops }:= ⟨fun _ _ x=>x,Nat.le_refl _,Nat.le_add_right _ _,fun _ x=>x,fun _ _ _=>rfl,fun _ _ x=>ownK (fun _ _ _ _ _ _ _ _ _=>rfl) x,fun _ _ x=> .inl x,Nat.le_refl _,fun _ _=> .inr (.inl rfl),fun _ _ _ _ _ _ _ _ _=>rfl⟩
 have hres:∀ o∈ops.toList,kindOf P o= .fresh→0+ops.toList.length≤resv P ops:=fun o ho hk=>by
  unfold resv
  rw [if_pos (List.any_eq_true.2 ⟨o,ho,decide_eq_true hk⟩)]
  simp
 obtain ⟨s1,s1',Γ1,Pu1,i1,k1,k2,k3⟩:=gDrawOps_ok ok (B:= ⟨Γ,Pu,H,I⟩) hs (R:=resv P ops) hres h (s':= ⟨E',{ I with n:=I.n+resv P ops },[],[],[]⟩)
  ⟨hs1,he.mono hkeep,rfl,trivial,trivial,hold,hb1,fun j _ _=>hs.fresh _ (Nat.le_add_right _ _),Nat.le_refl _,fun j id hm=>by cases hm⟩
 refine ⟨s1.E,s1.H,Γ1,Pu1,s1'.T,overlay I.n s1'.pend s1'.H,k1,?_,k3.env,k3.sim,k3.bex⟩
 simp only [evDraw,hc,if_true,k2]
end
end Go.Gv
