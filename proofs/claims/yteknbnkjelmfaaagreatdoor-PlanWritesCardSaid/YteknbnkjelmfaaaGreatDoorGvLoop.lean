/- Loops that plain functions stand for; all that is known, at each level. -/
import Derived.Test.YteknbnkjelmfaaaGreatDoorGvHook
set_option linter.unusedSimpArgs false
set_option linter.unusedVariables false
namespace Go.Gv
open Go Go.Iv
section
variable {P:Program} {hint:Hint} {sh:cz} {O:Nat->Prop} {Γ Γ1 Γ':bj} {Pu Pu1:Nat->Prop} {H H1:GH} {I I1:IH} {β:Type} {r:β}
def Vq (P:Program) (hint:Hint) (n0 ck:Nat):List (XK×Tm)->Prop
 | []=>True
 |(_,T)::r=>(T.ok P hint/\n0<=T.n0/\ck<=T.ck)/\Vq P hint n0 ck r
structure Left (P:Program) (hint:Hint) (sh:cz) (O:Nat->Prop) (Γ0:bj) (Pu0:Nat->Prop) (H0:GH) (I0:IH) (Γ:bj) (Pu:Nat->Prop) (H:GH) (I:IH) (E:GE) (E':En):Prop where
 dz:aE P hint sh Γ Pu H I
 env:ER Γ Pu I E E'
 ex:Ex O Γ0 Pu0 H0 I0 Γ Pu H I
theorem Ak (hs:aE P hint sh Γ Pu H I) (t:TV):aE P hint sh Γ Pu (v8 t H) I/\Ex (bT Γ H I) Γ Pu H I Γ Pu (v8 t H) I:=by
 unfold v8;split
 ·exact AN hs _
 ·exact ⟨hs,Ex.refl hs⟩
theorem Mb:∀ {l:List T1} {vs:List TV} {H:GH},aE P hint sh Γ Pu H I->aE P hint sh Γ Pu (sa l vs H) I/\Ex (bT Γ H I) Γ Pu H I Γ Pu (sa l vs H) I:=by
 intro l
 induction l with
 |nil=>intro vs H hs;unfold sa;exact ⟨hs,Ex.refl hs⟩
 |cons t r ih=>
  intro vs H hs;cases vs with
  |nil=>cases t<;>exact ⟨hs,Ex.refl hs⟩
  |cons v vs=>
   cases t with
   |RH c et e no net ne em=>
    obtain ⟨s1,e1⟩:=Ak hs v;obtain ⟨s2,e2⟩:=ih (vs:=vs) s1;exact ⟨s2,Ex.trans hs s1 e1 e2⟩
   |_=>exact ih hs
theorem Hr:∀ {l:List (Nat×OT)} {H:GH},aE P hint sh Γ Pu H I->aE P hint sh Γ Pu (nw l H) I/\Ex (bT Γ H I) Γ Pu H I Γ Pu (nw l H) I:=by
 intro l
 induction l with
 |nil=>intro H hs;exact ⟨hs,Ex.refl hs⟩
 |cons p r ih=>
  intro H hs;obtain ⟨id,t⟩:=p;cases t with
  |nest et e no net ne em=>
   obtain ⟨s1,e1⟩:=AN hs id;obtain ⟨s2,e2⟩:=ih s1;exact ⟨s2,Ex.trans hs s1 e1 e2⟩
  |gB kt gk k net ne=>
   obtain ⟨s1,e1⟩:=Mw hs id;obtain ⟨s2,e2⟩:=ih s1;exact ⟨s2,Ex.trans hs s1 e1 e2⟩
  |cells et l wr=>
   unfold nw;split
   ·rename_i cs _ _
    obtain ⟨s1,e1⟩:=Mb (l:=l) (vs:=cs) hs;obtain ⟨s2,e2⟩:=ih s1;exact ⟨s2,Ex.trans hs s1 e1 e2⟩
   ·exact ih hs
  |_=>exact ih hs
theorem Left.norm {Γ0:bj} {Pu0:Nat->Prop} {Hb:GH} {I0:IH} (hs0:aE P hint sh Γ0 Pu0 Hb I0) {tmp:IP} {E':En}:∀ {l:List (Nat×T2)} {L L':IP} {H H':GH} {Pu:Nat->Prop},Left P hint sh O Γ0 Pu0 Hb I0 Γ Pu H I ⟨L,tmp⟩ E'->kW l L H=(L',H')->
  ∃ Pu',Left P hint sh O Γ0 Pu0 Hb I0 Γ Pu' H' I ⟨L',tmp⟩ E':=by
 intro l
 induction l with
 |nil=>intro L L' H H' Pu hl h;unfold kW at h;cases h;exact ⟨Pu,hl⟩
 |cons p r ih=>
  intro L L' H H' Pu hl h;have go:∀ {k:Nat} {u v:TV} {H1:GH},eX L k=u->tn H u=some (v,H1)->kW r (nf L k v) H1=(L',H')->∃ Pu',Left P hint sh O Γ0 Pu0 Hb I0 Γ Pu' H' I ⟨L',tmp⟩ E':=by
   intro k u v H1 hk hp hn;have hr:=(hl.env k).1;simp only [hk] at hr;obtain ⟨Pu1,s1,e1,r1⟩:=Ft hl.dz hp hr;refine ih ⟨s1,fun t=>⟨?_,?_⟩,Ex.trans hs0 hl.dz hl.ex e1⟩ hn
   ·show GR Γ Pu1 I (eX (nf L k v) t) (lk E'.loc t)
    rw [fx];split
    ·rename_i ht;subst ht;exact r1
    ·exact (hl.env t).1.mono (e1.de hl.dz)
   ·exact (hl.env t).2.mono (e1.de hl.dz)
  unfold kW at h;split at h
  ·rename_i hx;cases hx
  ·rename_i hx
   cases hx;split at h
   ·rename_i hk
    split at h
    ·rename_i hp;exact go hk hp h
    ·exact ih hl h
   ·rename_i hk
    split at h
    ·rename_i hp;exact go hk hp h
    ·exact ih hl h
   ·exact ih hl h
  ·rename_i hx
   cases hx;obtain ⟨s1,e1⟩:=Ak hl.dz (eX _ _);exact ih ⟨s1,hl.env,Ex.trans hs0 hl.dz hl.ex e1⟩ h
  ·rename_i hx
   cases hx;exact ih hl h
theorem Left.VO (T:Tm) (hT:T.ok P hint) {Γ0:bj} {Pu0:Nat->Prop} {Hb:GH} {I0:IH} (hs0:aE P hint sh Γ0 Pu0 Hb I0) {E:GE} {E':En} (h:Left P hint sh O Γ0 Pu0 Hb I0 Γ Pu H I E E') (hn:Hb.n<=T.n0) (hck:Hb.ck<=T.ck) {x:T.ty} (hg:T.take E H=some x):
  ∃ Γ' Pu',Left P hint sh O Γ0 Pu0 Hb I0 Γ' Pu' (T.H x) I (T.E x) E'/\(∀ id l,id<T.n0->Γ id=some l->Γ' id=some l):=by
 unfold Tm.take at hg;split at hg;rename_i L H1 hq;obtain ⟨q1,q2⟩:=Hr (l:=T.jE) h.dz;obtain ⟨Pu',h⟩:=Left.norm hs0 ⟨q1,h.env,Ex.trans hs0 h.dz h.ex q2⟩ hq;obtain ⟨Γ',s1,e1,g1,o1,n1⟩:=T.iL hT h.dz h.env hg;exact ⟨Γ',Pu',⟨s1,e1,h.ex.VO T hs0 hn hck g1 o1 n1⟩,g1⟩
theorem XK.Ub {k:XK} {x:X} (h:k.is x=true):x=k.XA:=by
 cases k<;>cases x<;>first |(cases h;done) |rfl |skip
 unfold XK.is at h;rw [←beq_true h];rfl
def U8:OT->Bool
 | .loop .. =>false
 |_=>true
theorem Tm.cC {T:Tm} (h:T.jE.all (fun p=>U8 p.2)=true):T.ok P hint:=fun p hp=>by
 have h1:=List.all_eq_true.1 h p hp;obtain ⟨k,t⟩:=p;cases t<;>first |trivial |cases h1
def G2 (P:Program) (hint:Hint) (sh:cz) (O:Nat->Prop) (Γ0:bj) (Pu0:Nat->Prop) (H0:GH) (I0:IH) (ex:List (XK×Tm)) (y:yA ex) (n0:Nat) (ro:Option Nat) (D:List Deferred) (run:eR):Prop:=
 ∃ E1' I1 D1 Γ1 Pu1 x,run=some (x,E1',I1,D1)/\DB n0 I1 D1/\(ro.isSome=true->D1=D)/\
  (∀ {β:Type} {r:β} {K:X->GE->GH->Option β},S6 ex y K=some r->∃ E1 H1,K x E1 H1=some r/\Left P hint sh O Γ0 Pu0 H0 I0 Γ1 Pu1 H1 I1 E1 E1')
theorem SR {Γ0:bj} {Pu0:Nat->Prop} {Hb:GH} {I0:IH} (hs0:aE P hint sh Γ0 Pu0 Hb I0) {n0 ck:Nat} (hn:Hb.n<=n0) (hck:Hb.ck<=ck):∀ {ex:List (XK×Tm)} {x:X} {E:GE} {E':En} {y:yA ex},Vq P hint n0 ck ex->MX ex x E H=some y->Left P hint sh O Γ0 Pu0 Hb I0 Γ Pu H I E E'->
  ∃ Γ1 Pu1,∀ {β:Type} {r:β} {K:X->GE->GH->Option β},S6 ex y K=some r->∃ E1 H1,K x E1 H1=some r/\Left P hint sh O Γ0 Pu0 Hb I0 Γ1 Pu1 H1 I E1 E':=by
 intro ex
 induction ex with
 |nil=>intro x E E' y _ h;cases h
 |cons p r ih=>
  intro x E E' y hok h hl;obtain ⟨k,T⟩:=p;obtain ⟨⟨t1,t2,t3⟩,hr⟩:=hok;cases r with
  |nil=>
   simp only [MX] at h;replace h:=ae h;obtain ⟨hk,h⟩:=h;obtain ⟨Γ',Pu',l1,_⟩:=hl.VO T t1 hs0 (Nat.le_trans hn t2) (Nat.le_trans hck t3) h;refine ⟨Γ',Pu',fun {β r K} hp=>⟨T.E y,T.H y,?_,l1⟩⟩;rw [XK.Ub hk];exact hp
  |cons q r=>
   simp only [MX] at h;cases hk:k.is x with
   |true=>
    rw [hk] at h;simp only [zac] at h;split at h
    ·rename_i z hz
     cases h;obtain ⟨Γ',Pu',l1,_⟩:=hl.VO T t1 hs0 (Nat.le_trans hn t2) (Nat.le_trans hck t3) hz;refine ⟨Γ',Pu',fun {β r K} hp=>⟨T.E z,T.H z,?_,l1⟩⟩;rw [XK.Ub hk];exact hp
    ·cases h
   |false=>
    rw [hk] at h;simp only [zab] at h;split at h
    ·rename_i z hz
     cases h;obtain ⟨Γ1,Pu1,h1⟩:=ih hr hz hl;exact ⟨Γ1,Pu1,fun {β r K} hp=>h1 hp⟩
    ·cases h
structure aw (P:Program) (hint:Hint) (sh:cz) (it:aO) (n:Nat):Prop where
 run:∀ {x:it.T.ty} {y:yA it.ex} {O:Nat->Prop} {Γ0:bj} {Pu0:Nat->Prop} {Hb:GH} {I0:IH} {Γ:bj} {Pu:Nat->Prop} {I:IH} {E':En} {fi:FI} {c:Code} {ro':Option Nat} {n0:Nat} {D:List Deferred},
  it.L n x=some y->aE P hint sh Γ0 Pu0 Hb I0->Hb.n<=it.T.n0->Hb.ck<=it.T.ck->Left P hint sh O Γ0 Pu0 Hb I0 Γ Pu (it.T.H x) I (it.T.E x) E'->NI P hint it.bM fi (.loop c)->dp c=it.iI->NJ Γ it.ro ro'->(∀ l,it.ro=some l->l<it.T.n0)->DB n0 I D->n0<=I.n->
   G2 P hint sh O Γ0 Pu0 Hb I0 it.ex y n0 it.ro D (aK P (ev P hint (cD hint) (n+it.D)) fi ro' (.loop c) E' I D)
def aQ (P:Program) (hint:Hint) (bM iI:Nat) (fi:FI) (c:Code):Prop:=∀ fi' c',NI P hint bM fi' (.loop c')->dp c'=iI->fi'=fi/\c'=c
theorem aw.of {it:aO} {hk:(β:Type)->tG β} {sh:cz} {fi:FI} {c:Code} (hone:aQ P hint it.bM it.iI fi c) (hT:it.T.ok P hint) (hex:Vq P hint it.T.n0 it.T.ck it.ex) (ho:∀ m,rn P hint sh (hk (yA it.ex)) m)
  (h0:∀ x,it.L 0 x=none) (h:∀ m x,gC stx P sh (gv stx P sh hint (hk (yA it.ex)) (m+1+it.D)) it.bM fi it.ro c (it.T.E x) (it.T.H x) (it.Kb m)=it.L (m+1) x):∀ n,aw P hint sh it n:=by
 intro n
 induction n with
 |zero=>exact ⟨fun hL=>by rw [h0] at hL;cases hL⟩
 |succ m ih=>
  refine ⟨fun {x y O Γ0 Pu0 Hb I0 Γ Pu I E' fi' c' ro' n0 D} hL hs0 hn hck hl hin hfr hro hrl hd hn0=>?_⟩;obtain ⟨rfl,rfl⟩:=hone fi' c' hin hfr;rw [←h m x] at hL;have ok:=Pp (P:=P) (hint:=hint) (sh:=sh) (hk:=hk (yA it.ex)) (m+1+it.D) fun k _=>ho k
  obtain ⟨x1,E1,H1,Γ1,Pu1,E1',I1,D1,k1,k2,k3,k4,k5,k6,k7⟩:=Qo ok hL hl.dz hl.env (hin.sub (.loop (.refl _))) hro hd hn0;have l1:Left P hint sh O Γ0 Pu0 Hb I0 Γ1 Pu1 H1 I1 E1 E1':=⟨k4,k3,Ex.trans hs0 hl.dz hl.ex k5⟩;have other:x1≠ .normal->MX it.ex x1 E1 H1=some y->G2 P hint sh O Γ0 Pu0 Hb I0 it.ex y n0 it.ro D (aK P (ev P hint (cD hint) (m+1+it.D)) fi' ro' (.loop c') E' I D):=by
   intro hx hg;obtain ⟨Γ2,Pu2,hp⟩:=SR hs0 hn hck hex hg l1;refine ⟨E1',I1,D1,Γ2,Pu2,x1,?_,k6,k7,fun {β r K} h=>hp h⟩;cases x1 with
   |normal=>exact absurd rfl hx
   |exit id=>simp only [aK,k2]
   |ret=>simp only [aK,k2]
   |panic v=>simp only [aK,k2]
  cases x1 with
  |normal=>
   simp only [aO.Kb] at k1;split at k1
   ·rename_i s hs
    obtain ⟨Γ2,Pu2,l2,g2⟩:=l1.VO it.T hT hs0 hn hck hs;have hro2:NJ Γ2 it.ro ro':=by
     rcases hro with h1 |⟨l,b,loc,h1,h2,h3,h4⟩
     ·exact .inl h1
     ·exact .inr ⟨l,b,loc,h1,h2,g2 _ _ (hrl l h1) (k5.g _ _ h3),h4⟩
    obtain ⟨E2',I2,D2,Γ3,Pu3,x2,j1,j2,j3,j4⟩:=ih.run k1 hs0 hn hck l2 hin hfr hro2 hrl k6 (Nat.le_trans hn0 k5.n);refine ⟨E2',I2,D2,Γ3,Pu3,x2,?_,j2,fun h=>(j3 h).trans (k7 h),j4⟩;rw [show m+1+it.D=(m+it.D)+1 by omega] at k2 ⊢;simp only [aK,k2];exact j1
   ·cases k1
  |exit id=>exact other (by simp) k1
  |ret=>exact other (by simp) k1
  |panic v=>exact other (by simp) k1
theorem LI {a b:Option Nat} (h:yq a b=true):a=b:=by
 unfold yq at h;split at h
 ·rfl
 ·rw [beq_true h]
 ·cases h
theorem GH.yh (H1:GH) (k:Nat) (s:Nat) (o:bH) (j:Nat):(H1.back k (some (s,o))).get j=if j=k then some o else H1.get j:=by
 have:=GH.an ⟨H1.t,H1.n,s⟩ k o j;exact this
theorem GH.oz (H1:GH) (k:Nat) (s:Nat) (o:bH) (j:Nat):(H1.back k (some (s,o))).br j=if j=k then some s else H1.br j:=by
 have:=GH.gZ ⟨H1.t,H1.n,s⟩ k o j;exact this
theorem aE.back (hs:aE P hint sh Γ Pu H I) {k s:Nat} {o:bH} (hg:H.get k=some o) (hst:H.br k=some s) (h1:aE P hint sh Γ1 Pu1 H1 I1) (e1:Ex (bT Γ (H.del k) I) Γ Pu (H.del k) I Γ1 Pu1 H1 I1):
  aE P hint sh Γ1 Pu1 (H1.back k (some (s,o))) I1/\Ex (bT Γ H I) Γ Pu H I Γ1 Pu1 (H1.back k (some (s,o))) I1:=by
 obtain ⟨l,hl,_⟩:=hs.obj k o hg;obtain ⟨sd,ed⟩:=hs.drop k;have kv:=e1.de sd;have hblk:o.dw=true->∀ b,At I l o b->I1.get b=I.get b:=fun hm b hat=>e1.cQ b (hs.dx ⟨k,o,l,hg,hm,hl,hat⟩) (hs.Ku hg hm hl hat)
 have hpos:o.dw=true->∀ b x,l.pos=some (b,x)->I1.get b=I.get b:=fun hm b x hp=>hblk hm b (.inl ⟨x,hp⟩)
 have hat1:o.dw=true->∀ b,At I1 l o b->At I l o b:=fun hm b hat=>hat.congr (hpos hm)
 have sep1:o.dw=true->∀ b,At I l o b->¬ bT Γ1 H1 I1 b:=fun hm b hat ho=>
  hs.Ku hg hm hl hat (e1.own b (hs.dx ⟨k,o,l,hg,hm,hl,hat⟩) ho)
 have ownI:∀ b,bT Γ1 (H1.back k (some (s,o))) I1 b->bT Γ1 H1 I1 b∨(o.dw=true/\At I l o b):=by
  rintro b ⟨j,oj,lj,g1,g2,g3,g4⟩;rw [GH.yh] at g1;split at g1
  ·rename_i hj
   subst hj;cases g1;cases (e1.g _ _ hl).symm.trans g3;exact .inr ⟨g2,hat1 g2 b g4⟩
  ·exact .inl ⟨j,oj,lj,g1,g2,g3,g4⟩
 refine ⟨⟨?_,?_,?_,h1.bm,h1.fresh,h1.pu,h1.ro,h1.gn,h1.cB,?_,h1.Kd⟩,⟨e1.g,e1.hn,e1.n,e1.p,fun b hb ho=>e1.cQ b hb fun h=>ho (ed.own b hb h),?_,?_,e1.ck,?_,?_⟩⟩
 ·intro j oj g1
  rw [GH.yh] at g1;split at g1
  ·rename_i hj
   subst hj;cases g1;exact ⟨l,e1.g _ _ hl,hs.eB ⟨e1.g,e1.p,kv.i⟩ hg hl hblk⟩
  ·exact h1.obj j oj g1
 ·intro i j oi oj li lj b g1 g2 m1 m2 q1 q2 t1 t2
  rw [GH.yh] at g1 g2;split at g1<;>split at g2
  ·rename_i a b;rw [a,b]
  ·rename_i a b
   subst a;cases g1;cases (e1.g _ _ hl).symm.trans q1;exact absurd ⟨j,oj,lj,g2,m2,q2,t2⟩ (sep1 m1 _ (hat1 m1 _ t1))
  ·rename_i a b
   subst b;cases g2;cases (e1.g _ _ hl).symm.trans q2;exact absurd ⟨i,oi,li,g1,m1,q1,t1⟩ (sep1 m2 _ (hat1 m2 _ t2))
  ·exact h1.inj i j oi oj li lj b g1 g2 m1 m2 q1 q2 t1 t2
 ·intro b hb hpu
  rcases ownI b hb with h |⟨hm,hat⟩
  ·exact h1.sep b h hpu
  ·have hlt:=hs.dx ⟨k,o,l,hg,hm,hl,hat⟩
   rcases e1.pn b hlt hpu with h |h
   ·exact hs.sep b ⟨k,o,l,hg,hm,hl,hat⟩ h
   ·exact hs.Ku hg hm hl hat h
 ·intro j t ht
  rw [GH.oz] at ht;split at ht
  ·cases ht;exact Nat.lt_of_lt_of_le (hs.st k s hst) e1.ck
  ·exact h1.st j t ht
 ·intro b hb ho
  rcases ownI b ho with h |⟨hm,hat⟩
  ·exact ed.own b hb (e1.own b hb h)
  ·exact ⟨k,o,l,hg,hm,hl,hat⟩
 ·intro b hb hpu
  rcases e1.pn b hb hpu with h |h
  ·exact .inl h
  ·exact .inr (ed.own b hb h)
 ·intro j hj
  rw [GH.oz];split
  ·rename_i hjk;subst hjk;exact .inr (.inl hst.symm)
  ·rename_i hjk
   rcases e1.Cz j hj with h |h |h
   ·exact .inl h
   ·rw [GH.ik,if_neg hjk] at h;exact .inr (.inl h)
   ·exact .inr (.inr h)
 ·intro j lj b x t a1 a2 a3 a4
  rw [GH.oz] at a2;split at a2
  ·rename_i hjk
   subst hjk;cases hl.symm.trans a3;exact hs.eU ⟨e1.g,e1.p,kv.i⟩ a1 hl a4 fun o' g' hm=>by
    cases hg.symm.trans g';exact hpos hm b x a4
  ·rename_i hjk
   exact e1.lh j lj b x t (by rw [GH.ik,if_neg hjk];exact a1) a2 a3 a4
theorem Vi:∀ {fr:List Nat} {H:GH},(Go.Gv.gV fr H).n=H.n/\(Go.Gv.gV fr H).ck=H.ck:=by
 intro fr
 induction fr with
 |nil=>intro H;exact ⟨rfl,rfl⟩
 |cons k r ih=>intro H;exact ih (H:=H.del k)
theorem aE.gV (hs:aE P hint sh Γ Pu H I):∀ (fr:List Nat) ,aE P hint sh Γ Pu (Go.Gv.gV fr H) I/\Ex (bT Γ H I) Γ Pu H I Γ Pu (Go.Gv.gV fr H) I:=by
 intro fr
 induction fr generalizing H with
 |nil=>exact ⟨hs,Ex.refl hs⟩
 |cons k r ih=>
  obtain ⟨s1,e1⟩:=hs.drop k;obtain ⟨s2,e2⟩:=ih s1;exact ⟨s2,Ex.trans hs s1 e1 e2⟩
theorem aE.yZ (hs:aE P hint sh Γ Pu H I) (h1:aE P hint sh Γ1 Pu1 H1 I1):∀ {fr:List Nat},Ex (bT Γ (Go.Gv.gV fr H) I) Γ Pu (Go.Gv.gV fr H) I Γ1 Pu1 H1 I1->aE P hint sh Γ1 Pu1 (Go.Gv.yZ fr H H1) I1/\Ex (bT Γ H I) Γ Pu H I Γ1 Pu1 (Go.Gv.yZ fr H H1) I1:=by
 intro fr
 induction fr generalizing H with
 |nil=>intro e;exact ⟨h1,e⟩
 |cons k r ih=>
  intro e;obtain ⟨sd,ed⟩:=hs.drop k;obtain ⟨s2,e2⟩:=ih sd e;unfold Go.Gv.yZ;cases hq:H.t.uJ k with
  |none=>exact ⟨s2,ed.trans hs sd e2⟩
  |some p=>
   obtain ⟨s,o⟩:=p;exact hs.back (by unfold GH.get;rw [hq]) (by unfold GH.br;rw [hq]) s2 e2
theorem aw.aC {it:aO} {n:Nat} (hok:∀ m,aw P hint sh it m) (hT:it.T.ok P hint) {fi:FI} {ro':Option Nat} {c:Code} {E:GE} {E':En} {K:X->GE->GH->Option β} {n0:Nat} {D:List Deferred} (hfr:dp c=it.iI)
  (h:it.aC β n E H K=some (some r)) (hs:aE P hint sh Γ Pu H I) (he:ER Γ Pu I E E') (hf:NI P hint it.bM fi (.loop c)) (hr:NJ Γ it.ro ro') (hd:DB n0 I D) (hn:n0<=I.n):dC P hint sh K r Γ Pu H I n0 it.ro D (aK P (ev P hint (cD hint) n) fi ro' (.loop c) E' I D):=by
 unfold aO.aC at h;replace h:=ae h;obtain ⟨hb,h⟩:=h;replace hb:=ai hb;obtain ⟨hb,hb3⟩:=hb;replace hb:=ai hb;obtain ⟨hb1,hb2⟩:=hb;have n1:=aM hb1;have n2:=beq_true hb2;have n3:=aM hb3;split at h
 ·rename_i x hx
  cases hL:it.L (n - it.D) x with
  |none=>rw [hL] at h;cases h
  |some y=>
   rw [hL] at h;simp only [zaa,Option.some.injEq] at h;obtain ⟨sd,ed⟩:=hs.gV it.fr;have en:(gV it.fr H).n=H.n/\(gV it.fr H).ck=H.ck:=by
    exact Vi
   have l0:Left P hint sh (bT Γ (gV it.fr H) I) Γ Pu (gV it.fr H) I Γ Pu (gV it.fr H) I E E':=⟨sd,he,Ex.refl sd⟩;obtain ⟨Γ2,Pu2,l2,g2⟩:=l0.VO it.T hT sd (by rw [en.1];exact Nat.le_of_eq n2) (by rw [en.2];exact n3) hx;have hrl:∀ l,it.ro=some l->l<it.T.n0:=fun l hl=>by
    rcases hr with ⟨h1,_⟩ |⟨l',b,loc,h1,h2,h3,h4⟩
    ·rw [h1] at hl;cases hl
    ·rw [h1] at hl;cases hl
     rw [←n2];exact hs.bm _ _ h3
   have hro2:NJ Γ2 it.ro ro':=by
    rcases hr with h1 |⟨l,b,loc,h1,h2,h3,h4⟩
    ·exact .inl h1
    ·exact .inr ⟨l,b,loc,h1,h2,g2 _ _ (hrl l h1) h3,h4⟩
   obtain ⟨E2',I2,D2,Γ3,Pu3,x2,j1,j2,j3,j4⟩:=(hok (n - it.D)).run hL sd (by rw [en.1];exact Nat.le_of_eq n2) (by rw [en.2];exact n3) l2 hf hfr hro2 hrl hd hn;rw [show n - it.D+it.D=n by omega] at j1;obtain ⟨E3,H3,q1,q2⟩:=j4 h;obtain ⟨s4,e4⟩:=hs.yZ q2.dz q2.ex;exact ⟨x2,E3,_,Γ3,Pu3,E2',I2,D2,q1,j1,q2.env,s4,e4,j2,j3⟩
 ·cases h
theorem Pk {f:FuncId}:∀ {l:List aZ} {it:aZ},findF f l=some it->it∈l/\it.f=f:=by
 intro l
 induction l with
 |nil=>intro it h;cases h
 |cons a r ih=>
  intro it h;simp only [findF] at h;cases hb:Nat.beq a.f f with
  |true=>rw [hb] at h;cases h;exact ⟨List.mem_cons_self,beq_true hb⟩
  |false=>rw [hb] at h;exact ⟨zao _ (ih h).1,(ih h).2⟩
theorem Tp {bM iI:Nat} {ro:Option Nat} {N:Nat} {K:X->GE->GH->Option β} {E:GE} {q:Option β}:∀ {l:List aO},MZ β bM iI ro l N E H K=some q->∃ it,it∈l/\it.bM=bM/\it.iI=iI/\it.ro=ro/\it.aC β N E H K=some q:=by
 intro l
 induction l with
 |nil=>intro h;cases h
 |cons a r ih=>
  intro h;simp only [MZ] at h;have rest:MZ β bM iI ro r N E H K=some q->∃ it,it∈a::r/\it.bM=bM/\it.iI=iI/\it.ro=ro/\it.aC β N E H K=some q:=fun h=>by
   obtain ⟨it,h1,h2⟩:=ih h;exact ⟨it,zao _ h1,h2⟩
  cases hb:(Nat.beq a.bM bM &&Nat.beq a.iI iI &&yq a.ro ro) with
  |true=>
   rw [hb] at h;simp only [zac] at h;split at h
   ·rename_i x hx
    cases h;replace hb:=ai hb;have h2:=ai hb.1;exact ⟨a,List.mem_cons_self,beq_true h2.1,beq_true h2.2,LI hb.2,hx⟩
   ·exact rest h
  |false=>rw [hb] at h;exact rest h
structure ab (P:Program) (hint:Hint) (sh:cz) (k:aq):Prop where
 fns:∀ it∈k.fns,∀ n,az P hint sh it n
 loops:∀ it∈k.loops,(∀ n,aw P hint sh it n)/\it.T.ok P hint
theorem ab.nil:ab P hint sh ⟨[],[]⟩:=⟨(fun it h=>by cases h),(fun it h=>by cases h)⟩
theorem ab.fn {k:aq} (h:ab P hint sh k) {it:aZ} (hi:∀ n,az P hint sh it n):ab P hint sh ⟨it::k.fns,k.loops⟩:=
 ⟨fun a ha=>by
  rcases List.mem_cons.1 ha with rfl |ha
  ·exact hi
  ·exact h.fns a ha,h.loops⟩
theorem ab.loop {k:aq} (h:ab P hint sh k) {it:aO} (hi:∀ n,aw P hint sh it n) (hT:it.T.ok P hint):ab P hint sh ⟨k.fns,it::k.loops⟩:=
 ⟨h.fns,fun a ha=>by
  rcases List.mem_cons.1 ha with rfl |ha
  ·exact ⟨hi,hT⟩
  ·exact h.loops a ha⟩
theorem ab.aC {k:aq} (h:ab P hint sh k) (n:Nat):rn P hint sh (k.hk β) n where
 call:=fun {f g args args' H K r Γ Pu I} hg hr hs ha=>by
  simp only [aq.hk] at hg;split at hg
  ·rename_i it hit
   cases hg;obtain ⟨hm,rfl⟩:=Pk hit;exact az.aC (fun m _=>h.fns it hm m) hr hs ha
  ·cases hg
 loop:=fun {bM fi ro ro' c g E E' H K r Γ Pu I n0 D} hg hr hs he hf hro hd hn=>by
  simp only [aq.hk] at hg;split at hg
  ·cases hg
   obtain ⟨it,hm,h1,h2,h3,hq⟩:=Tp hr;subst h1 h3;exact aw.aC (h.loops it hm).1 (h.loops it hm).2 h2.symm hq hs he hf hro hd hn
  ·cases hg
def dR:Code->List Code
 | .seq a b=>dR a++dR b
 | .cond _ a b=>dR a++dR b
 | .block _ a=>dR a
 | .loop a=>a::dR a
 | .rangeFunc _ _ a b=>dR a++dR b
 | .scope a=>dR a
 |_=> []
def dn:Code->List (List Tmp×Code×Code)
 | .seq a b=>dn a++dn b
 | .cond _ a b=>dn a++dn b
 | .block _ a=>dn a
 | .loop a=>dn a
 | .rangeFunc _ ps a b=>(ps.toList,a,b)::(dn a++dn b)
 | .scope a=>dn a
 |_=> []
theorem Pg {c b:Code} (h:Sub (.loop c) b):c∈dR b:=by
 generalize hq:Code.loop c=q at h
 induction h with
 |refl=>subst hq;exact List.mem_cons_self
 |Rz _ ih=>exact List.mem_append_left _ (ih hq)
 |Ph _ ih=>exact List.mem_append_right _ (ih hq)
 |FQ _ ih=>exact List.mem_append_left _ (ih hq)
 |Fx _ ih=>exact List.mem_append_right _ (ih hq)
 |block _ ih=>exact ih hq
 |loop _ ih=>exact zao _ (ih hq)
 |dV _ ih=>exact List.mem_append_left _ (ih hq)
 |body _ ih=>exact List.mem_append_right _ (ih hq)
 |scope _ ih=>exact ih hq
theorem Ni {f:Operand} {ps:Array Tmp} {x y b:Code} (h:Sub (.rangeFunc f ps x y) b):(ps.toList,x,y)∈dn b:=by
 generalize hq:Code.rangeFunc f ps x y=q at h
 induction h with
 |refl=>subst hq;exact List.mem_cons_self
 |Rz _ ih=>exact List.mem_append_left _ (ih hq)
 |Ph _ ih=>exact List.mem_append_right _ (ih hq)
 |FQ _ ih=>exact List.mem_append_left _ (ih hq)
 |Fx _ ih=>exact List.mem_append_right _ (ih hq)
 |block _ ih=>exact ih hq
 |loop _ ih=>exact ih hq
 |dV _ ih=>exact zao _ (List.mem_append_left _ (ih hq))
 |body _ ih=>exact zao _ (List.mem_append_right _ (ih hq))
 |scope _ ih=>exact ih hq
noncomputable section
def Cu (P:Program) (bM:Nat):Code:=match P.funcs[bM]? with
 |some fn=>match fn.body with
  |some b=>b
  |none=> .skip
 |none=> .skip
def nc (P:Program) (hint:Hint) (bM:Nat):FI:=match P.funcs[bM]? with
 |some fn=>gJ hint bM fn
 |none=>⟨0,[]⟩
def CB (P:Program) (bM iI:Nat):List Code:=(dR (Cu P bM)).filter fun c=>Nat.beq (dp c) iI
def UL (P:Program) (bM iI:Nat):Code:=(CB P bM iI).headD .skip
def pR (P:Program) (bM iI:Nat):List (List Tmp×Code×Code):=(dn (Cu P bM)).filter fun c=>Nat.beq (dp c.2.2) iI
def aU (P:Program) (bM iI:Nat):List Tmp×Code×Code:=(pR P bM iI).headD ([],.skip,.skip)
end
theorem Gb {α:Type} {l:List α} {d a:α} (h:Nat.beq l.length 1=true) (ha:a∈l):a=l.headD d:=by
 cases l with
 |nil=>cases ha
 |cons b r=>
  cases r with
  |nil=>simpa using ha
  |cons c r=>cases h
theorem aQ.of {bM iI:Nat} (h:Nat.beq (CB P bM iI).length 1=true):aQ P hint bM iI (nc P hint bM) (UL P bM iI):=by
 intro fi' c' ⟨fn,b,h1,h2,h3,h4⟩ hr;refine ⟨by unfold nc;rw [h1];exact h3,Gb h ?_⟩;unfold CB Cu;rw [h1];simp only [h2];exact List.mem_filter.2 ⟨Pg h4,by rw [hr];exact Nat.beq_refl _⟩
theorem nR.of {bM iI:Nat} (h:Nat.beq (pR P bM iI).length 1=true) (hr:dp (aU P bM iI).2.2=iI):nR P hint bM (nc P hint bM) (aU P bM iI).1 (aU P bM iI).2.1 (aU P bM iI).2.2:=by
 intro f qs asg' body' fi' ⟨fn,b,h1,h2,h3,h4⟩ hb;rw [hr] at hb;have hm:(qs.toList,asg',body')∈pR P bM iI:=by
  unfold pR Cu;rw [h1];simp only [h2];exact List.mem_filter.2 ⟨Ni h4,by show Nat.beq (dp body') iI=true;rw [←hb];exact Nat.beq_refl _⟩
 have he:=Gb (d:=([],.skip,.skip)) h hm;refine ⟨by unfold nc;rw [h1];exact h3,?_,?_,?_⟩
 ·exact congrArg (·.1) he
 ·exact congrArg (·.2.1) he
 ·exact congrArg (·.2.2) he
end
end Go.Gv
