/- Loops that plain functions stand for; all that is known, at each level. -/
import Derived.Test.YtnddpppljnjmcaaGreatDoorGvHook
set_option linter.unusedSimpArgs false
set_option linter.unusedVariables false
namespace Go.Gv
open Go Go.Iv
section
variable {P:Program} {hint:Hint} {sh:ShT} {O:Nat→Prop} {Γ Γ1 Γ':Gam} {Pu Pu1:Nat→Prop} {H H1:GH} {I I1:IH} {β:Type} {r:β}
def exOK (P:Program) (hint:Hint) (n0 ck:Nat):List (XK×Tm)→Prop
 | []=>True
 |(_,T)::r=>(T.ok P hint∧n0≤T.n0∧ck≤T.ck)∧exOK P hint n0 ck r
structure Left (P:Program) (hint:Hint) (sh:ShT) (O:Nat→Prop) (Γ0:Gam) (Pu0:Nat→Prop) (H0:GH) (I0:IH) (Γ:Gam) (Pu:Nat→Prop) (H:GH) (I:IH) (E:GE) (E':En):Prop where
 sim:Sim P hint sh Γ Pu H I
 env:ER Γ Pu I E E'
 ex:Ex O Γ0 Pu0 H0 I0 Γ Pu H I
theorem closeT_ok (hs:Sim P hint sh Γ Pu H I) (t:TV):Sim P hint sh Γ Pu (closeT t H) I∧Ex (Own Γ H I) Γ Pu H I Γ Pu (closeT t H) I:=by
 unfold closeT
 split
 ·exact closeN_ok hs _
 ·exact ⟨hs,Ex.refl hs⟩
theorem closeL_ok:∀ {l:List T1} {vs:List TV} {H:GH},Sim P hint sh Γ Pu H I→Sim P hint sh Γ Pu (closeL l vs H) I∧Ex (Own Γ H I) Γ Pu H I Γ Pu (closeL l vs H) I:=by
 intro l
 induction l with
 |nil=>intro vs H hs;unfold closeL;exact ⟨hs,Ex.refl hs⟩
 |cons t r ih=>
  intro vs H hs
  cases vs with
  |nil=>cases t<;>exact ⟨hs,Ex.refl hs⟩
  |cons v vs=>
   cases t with
   |nst c et e no net ne em=>
    obtain ⟨s1,e1⟩:=closeT_ok hs v
    obtain ⟨s2,e2⟩:=ih (vs:=vs) s1
    exact ⟨s2,Ex.trans hs s1 e1 e2⟩
   |_=>exact ih hs
theorem normO_ok:∀ {l:List (Nat×OT)} {H:GH},Sim P hint sh Γ Pu H I→Sim P hint sh Γ Pu (normO l H) I∧Ex (Own Γ H I) Γ Pu H I Γ Pu (normO l H) I:=by
 intro l
 induction l with
 |nil=>intro H hs;exact ⟨hs,Ex.refl hs⟩
 |cons p r ih=>
  intro H hs
  obtain ⟨id,t⟩:=p
  cases t with
  |nest et e no net ne em=>
   obtain ⟨s1,e1⟩:=closeN_ok hs id
   obtain ⟨s2,e2⟩:=ih s1
   exact ⟨s2,Ex.trans hs s1 e1 e2⟩
  |mapn kt gk k net ne=>
   obtain ⟨s1,e1⟩:=closeM_ok hs id
   obtain ⟨s2,e2⟩:=ih s1
   exact ⟨s2,Ex.trans hs s1 e1 e2⟩
  |cells et l wr=>
   unfold normO
   split
   ·rename_i cs _ _
    obtain ⟨s1,e1⟩:=closeL_ok (l:=l) (vs:=cs) hs
    obtain ⟨s2,e2⟩:=ih s1
    exact ⟨s2,Ex.trans hs s1 e1 e2⟩
   ·exact ih hs
  |_=>exact ih hs
theorem Left.norm {Γ0:Gam} {Pu0:Nat→Prop} {Hb:GH} {I0:IH} (hs0:Sim P hint sh Γ0 Pu0 Hb I0) {tmp:GAL} {E':En}:∀ {l:List (Nat×T2)} {L L':GAL} {H H':GH} {Pu:Nat→Prop},Left P hint sh O Γ0 Pu0 Hb I0 Γ Pu H I ⟨L,tmp⟩ E'→normE l L H=(L',H')→
  ∃ Pu',Left P hint sh O Γ0 Pu0 Hb I0 Γ Pu' H' I ⟨L',tmp⟩ E':=by
 intro l
 induction l with
 |nil=>intro L L' H H' Pu hl h;unfold normE at h;cases h;exact ⟨Pu,hl⟩
 |cons p r ih=>
  intro L L' H H' Pu hl h
  have go:∀ {k:Nat} {u v:TV} {H1:GH},lkG L k=u→pure1 H u=some (v,H1)→normE r (updG L k v) H1=(L',H')→∃ Pu',Left P hint sh O Γ0 Pu0 Hb I0 Γ Pu' H' I ⟨L',tmp⟩ E':=by
   intro k u v H1 hk hp hn
   have hr:=(hl.env k).1
   simp only [hk] at hr
   obtain ⟨Pu1,s1,e1,r1⟩:=pure1_ok hl.sim hp hr
   refine ih ⟨s1,fun t=> ⟨?_,?_⟩,Ex.trans hs0 hl.sim hl.ex e1⟩ hn
   ·show GR Γ Pu1 I (lkG (updG L k v) t) (lk E'.loc t)
    rw [lkG_updG]
    split
    ·rename_i ht;subst ht;exact r1
    ·exact (hl.env t).1.mono (e1.keepV hl.sim)
   ·exact (hl.env t).2.mono (e1.keepV hl.sim)
  unfold normE at h
  split at h
  ·rename_i hx;cases hx
  ·rename_i hx
   cases hx
   split at h
   ·rename_i hk
    split at h
    ·rename_i hp;exact go hk hp h
    ·exact ih hl h
   ·rename_i hk
    split at h
    ·rename_i hp;exact go hk hp h
    ·exact ih hl h
   ·exact ih hl h
  ·rename_i hx
   cases hx
   obtain ⟨s1,e1⟩:=closeT_ok hl.sim (lkG _ _)
   exact ih ⟨s1,hl.env,Ex.trans hs0 hl.sim hl.ex e1⟩ h
  ·rename_i hx
   cases hx
   exact ih hl h
theorem Left.nrm (T:Tm) (hT:T.ok P hint) {Γ0:Gam} {Pu0:Nat→Prop} {Hb:GH} {I0:IH} (hs0:Sim P hint sh Γ0 Pu0 Hb I0) {E:GE} {E':En} (h:Left P hint sh O Γ0 Pu0 Hb I0 Γ Pu H I E E') (hn:Hb.n≤T.n0) (hck:Hb.ck≤T.ck) {x:T.ty} (hg:T.take E H=some x):
  ∃ Γ' Pu',Left P hint sh O Γ0 Pu0 Hb I0 Γ' Pu' (T.H x) I (T.E x) E'∧(∀ id l,id<T.n0→Γ id=some l→Γ' id=some l):=by
 unfold Tm.take at hg
 split at hg
 rename_i L H1 hq
 obtain ⟨q1,q2⟩:=normO_ok (l:=T.objs) h.sim
 obtain ⟨Pu',h⟩:=Left.norm hs0 ⟨q1,h.env,Ex.trans hs0 h.sim h.ex q2⟩ hq
 obtain ⟨Γ',s1,e1,g1,o1,n1⟩:=T.get_ok hT h.sim h.env hg
 exact ⟨Γ',Pu',⟨s1,e1,h.ex.nrm T hs0 hn hck g1 o1 n1⟩,g1⟩
theorem XK.is_ok {k:XK} {x:X} (h:k.is x=true):x=k.toX:=by
 cases k<;>cases x<;>first |(cases h;done) |rfl |skip
 unfold XK.is at h
 rw [←beq_true h];rfl
def noLoop:OT→Bool
 | .loop .. =>false
 |_=>true
theorem Tm.okS {T:Tm} (h:T.objs.all (fun p=>noLoop p.2)=true):T.ok P hint:=fun p hp=>by
 have h1:=List.all_eq_true.1 h p hp
 obtain ⟨k,t⟩:=p
 cases t<;>first |trivial |cases h1
def LoopGood (P:Program) (hint:Hint) (sh:ShT) (O:Nat→Prop) (Γ0:Gam) (Pu0:Nat→Prop) (H0:GH) (I0:IH) (ex:List (XK×Tm)) (y:exTy ex) (n0:Nat) (ro:Option Nat) (D:List Deferred) (run:Res):Prop:=
 ∃ E1' I1 D1 Γ1 Pu1 x,run=some (x,E1',I1,D1)∧Dok n0 I1 D1∧(ro.isSome=true→D1=D)∧
  (∀ {β:Type} {r:β} {K:X→GE→GH→Option β},putX ex y K=some r→∃ E1 H1,K x E1 H1=some r∧Left P hint sh O Γ0 Pu0 H0 I0 Γ1 Pu1 H1 I1 E1 E1')
theorem getX_ok {Γ0:Gam} {Pu0:Nat→Prop} {Hb:GH} {I0:IH} (hs0:Sim P hint sh Γ0 Pu0 Hb I0) {n0 ck:Nat} (hn:Hb.n≤n0) (hck:Hb.ck≤ck):∀ {ex:List (XK×Tm)} {x:X} {E:GE} {E':En} {y:exTy ex},exOK P hint n0 ck ex→getX ex x E H=some y→Left P hint sh O Γ0 Pu0 Hb I0 Γ Pu H I E E'→
  ∃ Γ1 Pu1,∀ {β:Type} {r:β} {K:X→GE→GH→Option β},putX ex y K=some r→∃ E1 H1,K x E1 H1=some r∧Left P hint sh O Γ0 Pu0 Hb I0 Γ1 Pu1 H1 I E1 E':=by
 intro ex
 induction ex with
 |nil=>intro x E E' y _ h;cases h
 |cons p r ih=>
  intro x E E' y hok h hl
  obtain ⟨k,T⟩:=p
  obtain ⟨⟨t1,t2,t3⟩,hr⟩:=hok
  cases r with
  |nil=>
   simp only [getX] at h
   replace h:=bif_some h;obtain ⟨hk,h⟩:=h
   obtain ⟨Γ',Pu',l1,_⟩:=hl.nrm T t1 hs0 (Nat.le_trans hn t2) (Nat.le_trans hck t3) h
   refine ⟨Γ',Pu',fun {β r K} hp=> ⟨T.E y,T.H y,?_,l1⟩⟩
   rw [XK.is_ok hk];exact hp
  |cons q r=>
   simp only [getX] at h
   cases hk:k.is x with
   |true=>
    rw [hk] at h
    simp only [cond_true] at h
    split at h
    ·rename_i z hz
     cases h
     obtain ⟨Γ',Pu',l1,_⟩:=hl.nrm T t1 hs0 (Nat.le_trans hn t2) (Nat.le_trans hck t3) hz
     refine ⟨Γ',Pu',fun {β r K} hp=> ⟨T.E z,T.H z,?_,l1⟩⟩
     rw [XK.is_ok hk];exact hp
    ·cases h
   |false=>
    rw [hk] at h
    simp only [cond_false] at h
    split at h
    ·rename_i z hz
     cases h
     obtain ⟨Γ1,Pu1,h1⟩:=ih hr hz hl
     exact ⟨Γ1,Pu1,fun {β r K} hp=>h1 hp⟩
    ·cases h
structure LoopOK (P:Program) (hint:Hint) (sh:ShT) (it:LoopIt) (n:Nat):Prop where
 run:∀ {x:it.T.ty} {y:exTy it.ex} {O:Nat→Prop} {Γ0:Gam} {Pu0:Nat→Prop} {Hb:GH} {I0:IH} {Γ:Gam} {Pu:Nat→Prop} {I:IH} {E':En} {fi:FI} {c:Code} {ro':Option Nat} {n0:Nat} {D:List Deferred},
  it.L n x=some y→Sim P hint sh Γ0 Pu0 Hb I0→Hb.n≤it.T.n0→Hb.ck≤it.T.ck→Left P hint sh O Γ0 Pu0 Hb I0 Γ Pu (it.T.H x) I (it.T.E x) E'→InF P hint it.fid fi (.loop c)→firstR c=it.rid→RoR Γ it.ro ro'→(∀ l,it.ro=some l→l<it.T.n0)→Dok n0 I D→n0≤I.n→
   LoopGood P hint sh O Γ0 Pu0 Hb I0 it.ex y n0 it.ro D (evCode P (ev P hint (gspec hint) (n+it.D)) fi ro' (.loop c) E' I D)
def OneLoop (P:Program) (hint:Hint) (fid rid:Nat) (fi:FI) (c:Code):Prop:=∀ fi' c',InF P hint fid fi' (.loop c')→firstR c'=rid→fi'=fi∧c'=c
theorem LoopOK.of {it:LoopIt} {hk:(β:Type)→Hooks β} {sh:ShT} {fi:FI} {c:Code} (hone:OneLoop P hint it.fid it.rid fi c) (hT:it.T.ok P hint) (hex:exOK P hint it.T.n0 it.T.ck it.ex) (ho:∀ m,HookOK P hint sh (hk (exTy it.ex)) m)
  (h0:∀ x,it.L 0 x=none) (h:∀ m x,gC stx P sh (gv stx P sh hint (hk (exTy it.ex)) (m+1+it.D)) it.fid fi it.ro c (it.T.E x) (it.T.H x) (it.Kb m)=it.L (m+1) x):∀ n,LoopOK P hint sh it n:=by
 intro n
 induction n with
 |zero=>exact ⟨fun hL=>by rw [h0] at hL;cases hL⟩
 |succ m ih=>
  refine ⟨fun {x y O Γ0 Pu0 Hb I0 Γ Pu I E' fi' c' ro' n0 D} hL hs0 hn hck hl hin hfr hro hrl hd hn0=>?_⟩
  obtain ⟨rfl,rfl⟩:=hone fi' c' hin hfr
  rw [←h m x] at hL
  have ok:=gv_ok (P:=P) (hint:=hint) (sh:=sh) (hk:=hk (exTy it.ex)) (m+1+it.D) fun k _=>ho k
  obtain ⟨x1,E1,H1,Γ1,Pu1,E1',I1,D1,k1,k2,k3,k4,k5,k6,k7⟩:=gC_ok ok hL hl.sim hl.env (hin.sub (.loop (.refl _))) hro hd hn0
  have l1:Left P hint sh O Γ0 Pu0 Hb I0 Γ1 Pu1 H1 I1 E1 E1':= ⟨k4,k3,Ex.trans hs0 hl.sim hl.ex k5⟩
  have other:x1≠ .normal→getX it.ex x1 E1 H1=some y→LoopGood P hint sh O Γ0 Pu0 Hb I0 it.ex y n0 it.ro D (evCode P (ev P hint (gspec hint) (m+1+it.D)) fi' ro' (.loop c') E' I D):=by
   intro hx hg
   obtain ⟨Γ2,Pu2,hp⟩:=getX_ok hs0 hn hck hex hg l1
   refine ⟨E1',I1,D1,Γ2,Pu2,x1,?_,k6,k7,fun {β r K} h=>hp h⟩
   cases x1 with
   |normal=>exact absurd rfl hx
   |exit id=>simp only [evCode,k2]
   |ret=>simp only [evCode,k2]
   |panic v=>simp only [evCode,k2]
  cases x1 with
  |normal=>
   simp only [LoopIt.Kb] at k1
   split at k1
   ·rename_i s hs
    obtain ⟨Γ2,Pu2,l2,g2⟩:=l1.nrm it.T hT hs0 hn hck hs
    have hro2:RoR Γ2 it.ro ro':=by
     rcases hro with h1 | ⟨l,b,loc,h1,h2,h3,h4⟩
     ·exact .inl h1
     ·exact .inr ⟨l,b,loc,h1,h2,g2 _ _ (hrl l h1) (k5.g _ _ h3),h4⟩
    obtain ⟨E2',I2,D2,Γ3,Pu3,x2,j1,j2,j3,j4⟩:=ih.run k1 hs0 hn hck l2 hin hfr hro2 hrl k6 (Nat.le_trans hn0 k5.n)
    refine ⟨E2',I2,D2,Γ3,Pu3,x2,?_,j2,fun h=>(j3 h).trans (k7 h),j4⟩
    rw [show m+1+it.D=(m+it.D)+1 by omega] at k2 ⊢
    simp only [evCode,k2]
    exact j1
   ·cases k1
  |exit id=>exact other (by simp) k1
  |ret=>exact other (by simp) k1
  |panic v=>exact other (by simp) k1
theorem sameRo_ok {a b:Option Nat} (h:sameRo a b=true):a=b:=by
 unfold sameRo at h
 split at h
 ·rfl
 ·rw [beq_true h]
 ·cases h
theorem GH.get_back (H1:GH) (k:Nat) (s:Nat) (o:GObj) (j:Nat):(H1.back k (some (s,o))).get j=if j=k then some o else H1.get j:=by
 have:=GH.get_put ⟨H1.t,H1.n,s⟩ k o j
 exact this
theorem GH.stamp_back (H1:GH) (k:Nat) (s:Nat) (o:GObj) (j:Nat):(H1.back k (some (s,o))).stamp j=if j=k then some s else H1.stamp j:=by
 have:=GH.stamp_put ⟨H1.t,H1.n,s⟩ k o j
 exact this
theorem Sim.back (hs:Sim P hint sh Γ Pu H I) {k s:Nat} {o:GObj} (hg:H.get k=some o) (hst:H.stamp k=some s) (h1:Sim P hint sh Γ1 Pu1 H1 I1) (e1:Ex (Own Γ (H.del k) I) Γ Pu (H.del k) I Γ1 Pu1 H1 I1):
  Sim P hint sh Γ1 Pu1 (H1.back k (some (s,o))) I1∧Ex (Own Γ H I) Γ Pu H I Γ1 Pu1 (H1.back k (some (s,o))) I1:=by
 obtain ⟨l,hl,_⟩:=hs.obj k o hg
 obtain ⟨sd,ed⟩:=hs.drop k
 have kv:=e1.keepV sd
 have hblk:o.mut=true→∀ b,At I l o b→I1.get b=I.get b:=fun hm b hat=>e1.keep b (hs.own_lt ⟨k,o,l,hg,hm,hl,hat⟩) (hs.free0 hg hm hl hat)
 have hpos:o.mut=true→∀ b x,l.pos=some (b,x)→I1.get b=I.get b:=fun hm b x hp=>hblk hm b (.inl ⟨x,hp⟩)
 have hat1:o.mut=true→∀ b,At I1 l o b→At I l o b:=fun hm b hat=>hat.congr (hpos hm)
 have sep1:o.mut=true→∀ b,At I l o b→¬ Own Γ1 H1 I1 b:=fun hm b hat ho=>
  hs.free0 hg hm hl hat (e1.own b (hs.own_lt ⟨k,o,l,hg,hm,hl,hat⟩) ho)
 have ownI:∀ b,Own Γ1 (H1.back k (some (s,o))) I1 b→Own Γ1 H1 I1 b∨(o.mut=true∧At I l o b):=by
  rintro b ⟨j,oj,lj,g1,g2,g3,g4⟩
  rw [GH.get_back] at g1
  split at g1
  ·rename_i hj
   subst hj
   cases g1
   cases (e1.g _ _ hl).symm.trans g3
   exact .inr ⟨g2,hat1 g2 b g4⟩
  ·exact .inl ⟨j,oj,lj,g1,g2,g3,g4⟩
 refine ⟨⟨?_,?_,?_,h1.dom,h1.fresh,h1.pu,h1.ro,h1.gn,h1.glob,?_,h1.tab⟩,⟨e1.g,e1.hn,e1.n,e1.p,fun b hb ho=>e1.keep b hb fun h=>ho (ed.own b hb h),?_,?_,e1.ck,?_,?_⟩⟩
 ·intro j oj g1
  rw [GH.get_back] at g1
  split at g1
  ·rename_i hj
   subst hj
   cases g1
   exact ⟨l,e1.g _ _ hl,hs.obj_keep ⟨e1.g,e1.p,kv.i⟩ hg hl hblk⟩
  ·exact h1.obj j oj g1
 ·intro i j oi oj li lj b g1 g2 m1 m2 q1 q2 t1 t2
  rw [GH.get_back] at g1 g2
  split at g1<;>split at g2
  ·rename_i a b;rw [a,b]
  ·rename_i a b
   subst a;cases g1
   cases (e1.g _ _ hl).symm.trans q1
   exact absurd ⟨j,oj,lj,g2,m2,q2,t2⟩ (sep1 m1 _ (hat1 m1 _ t1))
  ·rename_i a b
   subst b;cases g2
   cases (e1.g _ _ hl).symm.trans q2
   exact absurd ⟨i,oi,li,g1,m1,q1,t1⟩ (sep1 m2 _ (hat1 m2 _ t2))
  ·exact h1.inj i j oi oj li lj b g1 g2 m1 m2 q1 q2 t1 t2
 ·intro b hb hpu
  rcases ownI b hb with h | ⟨hm,hat⟩
  ·exact h1.sep b h hpu
  ·have hlt:=hs.own_lt ⟨k,o,l,hg,hm,hl,hat⟩
   rcases e1.pn b hlt hpu with h |h
   ·exact hs.sep b ⟨k,o,l,hg,hm,hl,hat⟩ h
   ·exact hs.free0 hg hm hl hat h
 ·intro j t ht
  rw [GH.stamp_back] at ht
  split at ht
  ·cases ht;exact Nat.lt_of_lt_of_le (hs.st k s hst) e1.ck
  ·exact h1.st j t ht
 ·intro b hb ho
  rcases ownI b ho with h | ⟨hm,hat⟩
  ·exact ed.own b hb (e1.own b hb h)
  ·exact ⟨k,o,l,hg,hm,hl,hat⟩
 ·intro b hb hpu
  rcases e1.pn b hb hpu with h |h
  ·exact .inl h
  ·exact .inr (ed.own b hb h)
 ·intro j hj
  rw [GH.stamp_back]
  split
  ·rename_i hjk;subst hjk;exact .inr (.inl hst.symm)
  ·rename_i hjk
   rcases e1.stm j hj with h |h |h
   ·exact .inl h
   ·rw [GH.stamp_del,if_neg hjk] at h;exact .inr (.inl h)
   ·exact .inr (.inr h)
 ·intro j lj b x t a1 a2 a3 a4
  rw [GH.stamp_back] at a2
  split at a2
  ·rename_i hjk
   subst hjk
   cases hl.symm.trans a3
   exact hs.hist_keep ⟨e1.g,e1.p,kv.i⟩ a1 hl a4 fun o' g' hm=>by
    cases hg.symm.trans g'
    exact hpos hm b x a4
  ·rename_i hjk
   exact e1.hist j lj b x t (by rw [GH.stamp_del,if_neg hjk];exact a1) a2 a3 a4
theorem delL_n:∀ {fr:List Nat} {H:GH},(Go.Gv.delL fr H).n=H.n∧(Go.Gv.delL fr H).ck=H.ck:=by
 intro fr
 induction fr with
 |nil=>intro H;exact ⟨rfl,rfl⟩
 |cons k r ih=>intro H;exact ih (H:=H.del k)
theorem Sim.delL (hs:Sim P hint sh Γ Pu H I):∀ (fr:List Nat) ,Sim P hint sh Γ Pu (Go.Gv.delL fr H) I∧Ex (Own Γ H I) Γ Pu H I Γ Pu (Go.Gv.delL fr H) I:=by
 intro fr
 induction fr generalizing H with
 |nil=>exact ⟨hs,Ex.refl hs⟩
 |cons k r ih=>
  obtain ⟨s1,e1⟩:=hs.drop k
  obtain ⟨s2,e2⟩:=ih s1
  exact ⟨s2,Ex.trans hs s1 e1 e2⟩
theorem Sim.backL (hs:Sim P hint sh Γ Pu H I) (h1:Sim P hint sh Γ1 Pu1 H1 I1):∀ {fr:List Nat},Ex (Own Γ (Go.Gv.delL fr H) I) Γ Pu (Go.Gv.delL fr H) I Γ1 Pu1 H1 I1→Sim P hint sh Γ1 Pu1 (Go.Gv.backL fr H H1) I1∧Ex (Own Γ H I) Γ Pu H I Γ1 Pu1 (Go.Gv.backL fr H H1) I1:=by
 intro fr
 induction fr generalizing H with
 |nil=>intro e;exact ⟨h1,e⟩
 |cons k r ih=>
  intro e
  obtain ⟨sd,ed⟩:=hs.drop k
  obtain ⟨s2,e2⟩:=ih sd e
  unfold Go.Gv.backL
  cases hq:H.t.getF k with
  |none=>exact ⟨s2,ed.trans hs sd e2⟩
  |some p=>
   obtain ⟨s,o⟩:=p
   exact hs.back (by unfold GH.get;rw [hq]) (by unfold GH.stamp;rw [hq]) s2 e2
theorem LoopOK.hook {it:LoopIt} {n:Nat} (hok:∀ m,LoopOK P hint sh it m) (hT:it.T.ok P hint) {fi:FI} {ro':Option Nat} {c:Code} {E:GE} {E':En} {K:X→GE→GH→Option β} {n0:Nat} {D:List Deferred} (hfr:firstR c=it.rid)
  (h:it.hook β n E H K=some (some r)) (hs:Sim P hint sh Γ Pu H I) (he:ER Γ Pu I E E') (hf:InF P hint it.fid fi (.loop c)) (hr:RoR Γ it.ro ro') (hd:Dok n0 I D) (hn:n0≤I.n):CodeGood P hint sh K r Γ Pu H I n0 it.ro D (evCode P (ev P hint (gspec hint) n) fi ro' (.loop c) E' I D):=by
 unfold LoopIt.hook at h
 replace h:=bif_some h;obtain ⟨hb,h⟩:=h
 replace hb:=Go.Gv.and_true hb;obtain ⟨hb,hb3⟩:=hb
 replace hb:=Go.Gv.and_true hb;obtain ⟨hb1,hb2⟩:=hb
 have n1:=ble_true hb1
 have n2:=beq_true hb2
 have n3:=ble_true hb3
 split at h
 ·rename_i x hx
  cases hL:it.L (n - it.D) x with
  |none=>rw [hL] at h;cases h
  |some y=>
   rw [hL] at h
   simp only [Option.bind_some,Option.some.injEq] at h
   obtain ⟨sd,ed⟩:=hs.delL it.fr
   have en:(delL it.fr H).n=H.n∧(delL it.fr H).ck=H.ck:=by
    exact delL_n
   have l0:Left P hint sh (Own Γ (delL it.fr H) I) Γ Pu (delL it.fr H) I Γ Pu (delL it.fr H) I E E':= ⟨sd,he,Ex.refl sd⟩
   obtain ⟨Γ2,Pu2,l2,g2⟩:=l0.nrm it.T hT sd (by rw [en.1];exact Nat.le_of_eq n2) (by rw [en.2];exact n3) hx
   have hrl:∀ l,it.ro=some l→l<it.T.n0:=fun l hl=>by
    rcases hr with ⟨h1,_⟩ | ⟨l',b,loc,h1,h2,h3,h4⟩
    ·rw [h1] at hl;cases hl
    ·rw [h1] at hl;cases hl
     rw [←n2];exact hs.dom _ _ h3
   have hro2:RoR Γ2 it.ro ro':=by
    rcases hr with h1 | ⟨l,b,loc,h1,h2,h3,h4⟩
    ·exact .inl h1
    ·exact .inr ⟨l,b,loc,h1,h2,g2 _ _ (hrl l h1) h3,h4⟩
   obtain ⟨E2',I2,D2,Γ3,Pu3,x2,j1,j2,j3,j4⟩:=(hok (n - it.D)).run hL sd (by rw [en.1];exact Nat.le_of_eq n2) (by rw [en.2];exact n3) l2 hf hfr hro2 hrl hd hn
   rw [show n - it.D+it.D=n by omega] at j1
   obtain ⟨E3,H3,q1,q2⟩:=j4 h
   obtain ⟨s4,e4⟩:=hs.backL q2.sim q2.ex
   exact ⟨x2,E3,_,Γ3,Pu3,E2',I2,D2,q1,j1,q2.env,s4,e4,j2,j3⟩
 ·cases h
theorem findF_ok {f:FuncId}:∀ {l:List FnIt} {it:FnIt},findF f l=some it→it∈l∧it.f=f:=by
 intro l
 induction l with
 |nil=>intro it h;cases h
 |cons a r ih=>
  intro it h
  simp only [findF] at h
  cases hb:Nat.beq a.f f with
  |true=>rw [hb] at h;cases h;exact ⟨List.mem_cons_self,beq_true hb⟩
  |false=>rw [hb] at h;exact ⟨List.mem_cons_of_mem _ (ih h).1,(ih h).2⟩
theorem tryL_ok {fid rid:Nat} {ro:Option Nat} {N:Nat} {K:X→GE→GH→Option β} {E:GE} {q:Option β}:∀ {l:List LoopIt},tryL β fid rid ro l N E H K=some q→∃ it,it∈l∧it.fid=fid∧it.rid=rid∧it.ro=ro∧it.hook β N E H K=some q:=by
 intro l
 induction l with
 |nil=>intro h;cases h
 |cons a r ih=>
  intro h
  simp only [tryL] at h
  have rest:tryL β fid rid ro r N E H K=some q→∃ it,it∈a::r∧it.fid=fid∧it.rid=rid∧it.ro=ro∧it.hook β N E H K=some q:=fun h=>by
   obtain ⟨it,h1,h2⟩:=ih h
   exact ⟨it,List.mem_cons_of_mem _ h1,h2⟩
  cases hb:(Nat.beq a.fid fid &&Nat.beq a.rid rid &&sameRo a.ro ro) with
  |true=>
   rw [hb] at h
   simp only [cond_true] at h
   split at h
   ·rename_i x hx
    cases h
    replace hb:=Go.Gv.and_true hb
    have h2:=Go.Gv.and_true hb.1
    exact ⟨a,List.mem_cons_self,beq_true h2.1,beq_true h2.2,sameRo_ok hb.2,hx⟩
   ·exact rest h
  |false=>rw [hb] at h;exact rest h
structure KnownOK (P:Program) (hint:Hint) (sh:ShT) (k:Known):Prop where
 fns:∀ it∈k.fns,∀ n,FnOK P hint sh it n
 loops:∀ it∈k.loops,(∀ n,LoopOK P hint sh it n)∧it.T.ok P hint
theorem KnownOK.nil:KnownOK P hint sh ⟨[],[]⟩:= ⟨(fun it h=>by cases h),(fun it h=>by cases h)⟩
theorem KnownOK.fn {k:Known} (h:KnownOK P hint sh k) {it:FnIt} (hi:∀ n,FnOK P hint sh it n):KnownOK P hint sh ⟨it::k.fns,k.loops⟩:=
 ⟨fun a ha=>by
  rcases List.mem_cons.1 ha with rfl |ha
  ·exact hi
  ·exact h.fns a ha,h.loops⟩
theorem KnownOK.loop {k:Known} (h:KnownOK P hint sh k) {it:LoopIt} (hi:∀ n,LoopOK P hint sh it n) (hT:it.T.ok P hint):KnownOK P hint sh ⟨k.fns,it::k.loops⟩:=
 ⟨h.fns,fun a ha=>by
  rcases List.mem_cons.1 ha with rfl |ha
  ·exact ⟨hi,hT⟩
  ·exact h.loops a ha⟩
theorem KnownOK.hook {k:Known} (h:KnownOK P hint sh k) (n:Nat):HookOK P hint sh (k.hk β) n where
 call:=fun {f g args args' H K r Γ Pu I} hg hr hs ha=>by
  simp only [Known.hk] at hg
  split at hg
  ·rename_i it hit
   cases hg
   obtain ⟨hm,rfl⟩:=findF_ok hit
   exact FnOK.hook (fun m _=>h.fns it hm m) hr hs ha
  ·cases hg
 loop:=fun {fid fi ro ro' c g E E' H K r Γ Pu I n0 D} hg hr hs he hf hro hd hn=>by
  simp only [Known.hk] at hg
  split at hg
  ·cases hg
   obtain ⟨it,hm,h1,h2,h3,hq⟩:=tryL_ok hr
   subst h1 h3
   exact LoopOK.hook (h.loops it hm).1 (h.loops it hm).2 h2.symm hq hs he hf hro hd hn
  ·cases hg
def allLoops:Code→List Code
 | .seq a b=>allLoops a++allLoops b
 | .cond _ a b=>allLoops a++allLoops b
 | .block _ a=>allLoops a
 | .loop a=>a::allLoops a
 | .rangeFunc _ _ a b=>allLoops a++allLoops b
 | .scope a=>allLoops a
 |_=> []
def allRanges:Code→List (List Tmp×Code×Code)
 | .seq a b=>allRanges a++allRanges b
 | .cond _ a b=>allRanges a++allRanges b
 | .block _ a=>allRanges a
 | .loop a=>allRanges a
 | .rangeFunc _ ps a b=>(ps.toList,a,b)::(allRanges a++allRanges b)
 | .scope a=>allRanges a
 |_=> []
theorem sub_loop {c b:Code} (h:Sub (.loop c) b):c∈allLoops b:=by
 generalize hq:Code.loop c=q at h
 induction h with
 |refl=>subst hq;exact List.mem_cons_self
 |seqL _ ih=>exact List.mem_append_left _ (ih hq)
 |seqR _ ih=>exact List.mem_append_right _ (ih hq)
 |condL _ ih=>exact List.mem_append_left _ (ih hq)
 |condR _ ih=>exact List.mem_append_right _ (ih hq)
 |block _ ih=>exact ih hq
 |loop _ ih=>exact List.mem_cons_of_mem _ (ih hq)
 |asg _ ih=>exact List.mem_append_left _ (ih hq)
 |body _ ih=>exact List.mem_append_right _ (ih hq)
 |scope _ ih=>exact ih hq
theorem sub_range {f:Operand} {ps:Array Tmp} {x y b:Code} (h:Sub (.rangeFunc f ps x y) b):(ps.toList,x,y)∈allRanges b:=by
 generalize hq:Code.rangeFunc f ps x y=q at h
 induction h with
 |refl=>subst hq;exact List.mem_cons_self
 |seqL _ ih=>exact List.mem_append_left _ (ih hq)
 |seqR _ ih=>exact List.mem_append_right _ (ih hq)
 |condL _ ih=>exact List.mem_append_left _ (ih hq)
 |condR _ ih=>exact List.mem_append_right _ (ih hq)
 |block _ ih=>exact ih hq
 |loop _ ih=>exact ih hq
 |asg _ ih=>exact List.mem_cons_of_mem _ (List.mem_append_left _ (ih hq))
 |body _ ih=>exact List.mem_cons_of_mem _ (List.mem_append_right _ (ih hq))
 |scope _ ih=>exact ih hq
noncomputable section
def bodyIn (P:Program) (fid:Nat):Code:=match P.funcs[fid]? with
 |some fn=>match fn.body with
  |some b=>b
  |none=> .skip
 |none=> .skip
def fiIn (P:Program) (hint:Hint) (fid:Nat):FI:=match P.funcs[fid]? with
 |some fn=>fiOf hint fid fn
 |none=> ⟨0,[]⟩
def loopsIn (P:Program) (fid rid:Nat):List Code:=(allLoops (bodyIn P fid)).filter fun c=>Nat.beq (firstR c) rid
def loopIn (P:Program) (fid rid:Nat):Code:=(loopsIn P fid rid).headD .skip
def rangesIn (P:Program) (fid rid:Nat):List (List Tmp×Code×Code):=(allRanges (bodyIn P fid)).filter fun c=>Nat.beq (firstR c.2.2) rid
def rangeIn (P:Program) (fid rid:Nat):List Tmp×Code×Code:=(rangesIn P fid rid).headD ([],.skip,.skip)
end
theorem one_head {α:Type} {l:List α} {d a:α} (h:Nat.beq l.length 1=true) (ha:a∈l):a=l.headD d:=by
 cases l with
 |nil=>cases ha
 |cons b r=>
  cases r with
  |nil=>simpa using ha
  |cons c r=>cases h
theorem OneLoop.of {fid rid:Nat} (h:Nat.beq (loopsIn P fid rid).length 1=true):OneLoop P hint fid rid (fiIn P hint fid) (loopIn P fid rid):=by
 intro fi' c' ⟨fn,b,h1,h2,h3,h4⟩ hr
 refine ⟨by unfold fiIn;rw [h1];exact h3,one_head h ?_⟩
 unfold loopsIn bodyIn
 rw [h1]
 simp only [h2]
 exact List.mem_filter.2 ⟨sub_loop h4,by rw [hr];exact Nat.beq_refl _⟩
theorem Uniq.of {fid rid:Nat} (h:Nat.beq (rangesIn P fid rid).length 1=true) (hr:firstR (rangeIn P fid rid).2.2=rid):Uniq P hint fid (fiIn P hint fid) (rangeIn P fid rid).1 (rangeIn P fid rid).2.1 (rangeIn P fid rid).2.2:=by
 intro f qs asg' body' fi' ⟨fn,b,h1,h2,h3,h4⟩ hb
 rw [hr] at hb
 have hm:(qs.toList,asg',body')∈rangesIn P fid rid:=by
  unfold rangesIn bodyIn
  rw [h1]
  simp only [h2]
  exact List.mem_filter.2 ⟨sub_range h4,by show Nat.beq (firstR body') rid=true;rw [←hb];exact Nat.beq_refl _⟩
 have he:=one_head (d:=([],.skip,.skip)) h hm
 refine ⟨by unfold fiIn;rw [h1];exact h3,?_,?_,?_⟩
 ·exact congrArg (·.1) he
 ·exact congrArg (·.2.1) he
 ·exact congrArg (·.2.2) he
end
end Go.Gv
