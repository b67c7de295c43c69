/- Loops that plain functions stand for; all that is known, at each level. -/
import Derived.Test.YteknbnkjelmfaaaGreatDoorGvHook
set_option linter.unusedSimpArgs false
set_option linter.unusedVariables false
namespace Go.Gv
open Go Go.Iv
section
variable {P:Program} {hint:Hint} {sh:bU} {O:Nat->Prop} {Γ Γ1 Γ':aN} {Pu Pu1:Nat->Prop} {H H1:GH} {I I1:IH} {Z:Type} {r:Z}
def Pt (P:Program) (hint:Hint) (n0 ck:Nat):List (XK×Tm)->Prop
 | []=>True
 |(_,T)::r=>(T.ok P hint/\n0<=T.n0/\ck<=T.ck)/\Pt P hint n0 ck r
structure Left (P:Program) (hint:Hint) (sh:bU) (O:Nat->Prop) (Γ0:aN) (Pu0:Nat->Prop) (H0:GH) (I0:IH) (Γ:aN) (Pu:Nat->Prop) (H:GH) (I:IH) (E:GE) (E':En):Prop where
 dH:au P hint sh Γ Pu H I
 env:ER Γ Pu I E E'
 ex:Ex O Γ0 Pu0 H0 I0 Γ Pu H I
theorem yv (hs:au P hint sh Γ Pu H I) (t:TV):au P hint sh Γ Pu (vO t H) I/\Ex (bk Γ H I) Γ Pu H I Γ Pu (vO t H) I:=by
 unfold vO;split
 .exact jP hs _
 .exact ⟨hs,Ex.refl hs⟩
theorem qz:∀ {l:List T1} {vs:List TV} {H:GH},au P hint sh Γ Pu H I->au P hint sh Γ Pu (mh l vs H) I/\Ex (bk Γ H I) Γ Pu H I Γ Pu (mh l vs H) I:=by
 intro l
 induction l with
 |nil=>intro vs H hs;unfold mh;exact ⟨hs,Ex.refl hs⟩
 |cons t r ih=>
  intro vs H hs;cases vs with
  |nil=>cases t<;>exact ⟨hs,Ex.refl hs⟩
  |cons v vs=>
   cases t with
   |tF c et e no net ne em=>
    obtain ⟨s1,e1⟩:=yv hs v;obtain ⟨s2,e2⟩:=ih (vs:=vs) s1;exact ⟨s2,Ex.trans hs s1 e1 e2⟩
   |_=>exact ih hs
theorem BS:∀ {l:List (Nat×OT)} {H:GH},au P hint sh Γ Pu H I->au P hint sh Γ Pu (mW l H) I/\Ex (bk Γ H I) Γ Pu H I Γ Pu (mW l H) I:=by
 intro l
 induction l with
 |nil=>intro H hs;exact ⟨hs,Ex.refl hs⟩
 |cons p r ih=>
  intro H hs;obtain ⟨id,t⟩:=p;cases t with
  |nest et e no net ne em=>
   obtain ⟨s1,e1⟩:=jP hs id;obtain ⟨s2,e2⟩:=ih s1;exact ⟨s2,Ex.trans hs s1 e1 e2⟩
  |gw kt gk k net ne=>
   obtain ⟨s1,e1⟩:=Ic hs id;obtain ⟨s2,e2⟩:=ih s1;exact ⟨s2,Ex.trans hs s1 e1 e2⟩
  |cells et l wr=>
   unfold mW;split
   .rename_i cs _ _
    obtain ⟨s1,e1⟩:=qz (l:=l) (vs:=cs) hs;obtain ⟨s2,e2⟩:=ih s1;exact ⟨s2,Ex.trans hs s1 e1 e2⟩
   grind
  |_=>exact ih hs
theorem Left.norm {Γ0:aN} {Pu0:Nat->Prop} {Hb:GH} {I0:IH} (hs0:au P hint sh Γ0 Pu0 Hb I0) {tmp:DN} {E':En}:∀ {l:List (Nat×T2)} {L L':DN} {H H':GH} {Pu:Nat->Prop},Left P hint sh O Γ0 Pu0 Hb I0 Γ Pu H I ⟨L,tmp⟩ E'->jZ l L H=(L',H')->
  ∃ Pu',Left P hint sh O Γ0 Pu0 Hb I0 Γ Pu' H' I ⟨L',tmp⟩ E':=by
 intro l
 induction l with
 |nil=>intro L L' H H' Pu hl h;unfold jZ at h;grind
 |cons p r ih=>
  intro L L' H H' Pu hl h;have go:∀ {k:Nat} {u v:TV} {H1:GH},eT L k=u->rS H u=some (v,H1)->jZ r (mP L k v) H1=(L',H')->∃ Pu',Left P hint sh O Γ0 Pu0 Hb I0 Γ Pu' H' I ⟨L',tmp⟩ E':=by
   intro k u v H1 hk hp hn;have hr:=(hl.env k).1;simp only [hk] at hr;obtain ⟨Pu1,s1,e1,r1⟩:=Cj hl.dH hp hr;refine ih ⟨s1,fun t=>⟨?_,?_⟩,Ex.trans hs0 hl.dH hl.ex e1⟩ hn
   .show GR Γ Pu1 I (eT (mP L k v) t) (lk E'.loc t)
    rw [fy];split
    .rename_i ht;subst ht;exact r1
    .exact (hl.env t).1.mono (e1.cy hl.dH)
   .exact (hl.env t).2.mono (e1.cy hl.dH)
  unfold jZ at h;split at h
  .rename_i hx;cases hx
  .rename_i hx
   cases hx;split at h
   .rename_i hk
    split at h
    .rename_i hp;exact go hk hp h
    .exact ih hl h
   .rename_i hk
    split at h
    .rename_i hp;exact go hk hp h
    .exact ih hl h
   .exact ih hl h
  .rename_i hx
   cases hx;obtain ⟨s1,e1⟩:=yv hl.dH (eT _ _);exact ih ⟨s1,hl.env,Ex.trans hs0 hl.dH hl.ex e1⟩ h
  grind
theorem Left.Sm (T:Tm) (hT:T.ok P hint) {Γ0:aN} {Pu0:Nat->Prop} {Hb:GH} {I0:IH} (hs0:au P hint sh Γ0 Pu0 Hb I0) {E:GE} {E':En} (h:Left P hint sh O Γ0 Pu0 Hb I0 Γ Pu H I E E') (hn:Hb.n<=T.n0) (hck:Hb.ck<=T.ck) {x:T.ty} (hg:T.take E H=some x):
  ∃ Γ' Pu',Left P hint sh O Γ0 Pu0 Hb I0 Γ' Pu' (T.H x) I (T.E x) E'/\(∀ id l,id<T.n0->Γ id=some l->Γ' id=some l):=by
 unfold Tm.take at hg;split at hg;rename_i L H1 hq;obtain ⟨q1,q2⟩:=BS (l:=T.fZ) h.dH;obtain ⟨Pu',h⟩:=Left.norm hs0 ⟨q1,h.env,Ex.trans hs0 h.dH h.ex q2⟩ hq;obtain ⟨Γ',s1,e1,g1,o1,n1⟩:=T.gF hT h.dH h.env hg;exact ⟨Γ',Pu',⟨s1,e1,h.ex.Sm T hs0 hn hck g1 o1 n1⟩,g1⟩
theorem CU {t:TypeId} {v:Value} {e:Int} (h:Gw t v=some e):v=LL t e:=by
 unfold Gw at h;split at h
 .replace h:=ad h
  cases h.2;rw [beq_true h.1];rfl
 .cases h
def nA:OT->Bool
 | .loop .. =>false
 |_=>true
theorem Tm.J8 {T:Tm} (h:T.fZ.all (fun p=>nA p.2)=true):T.ok P hint:=fun p hp=>by
 have h1:=List.all_eq_true.1 h p hp;obtain ⟨k,t⟩:=p;cases t<;>first |trivial |cases h1
def BM (P:Program) (hint:Hint) (sh:bU) (O:Nat->Prop) (Γ0:aN) (Pu0:Nat->Prop) (H0:GH) (I0:IH) (ex:List (XK×Tm)) (y:qK ex) (n0:DB) (ro:Option Nat) (D:List Deferred) (rd:List Nat) (Γs:aN) (Is:IH) (run:qx):Prop:=
 ∃ E1' I1 D1 Γ1 Pu1 x,run=some (x,E1',I1,D1)/\Aq n0 I1 D1/\(ro.isSome=true->D1=D)/\((∀ v,x≠ .panic v)->∀ k∈rd,∀ l b z,Γs k=some l->l.pos=some (b,z)->I1.get b=Is.get b)/\
  (∀ {Z:Type} {r:Z} {K:X->GE->GH->Option Z},OS ex y K=some r->∃ E1 H1,K x E1 H1=some r/\Left P hint sh O Γ0 Pu0 H0 I0 Γ1 Pu1 H1 I1 E1 E1')
theorem Cl {Γ0:aN} {Pu0:Nat->Prop} {Hb:GH} {I0:IH} (hs0:au P hint sh Γ0 Pu0 Hb I0) {k:XK} {T:Tm} (t1:T.ok P hint) (hn:Hb.n<=T.n0) (hck:Hb.ck<=T.ck) {x:X} {E E2:GE} {E':En} {y:T.ty} (he:k.env x E=some E2) (h:T.take E2 H=some y) (hl:Left P hint sh O Γ0 Pu0 Hb I0 Γ Pu H I E E'):
  ∃ Γ1 Pu1,∀ {Z:Type} {r:Z} {K:X->GE->GH->Option Z},k.go (T.E y) (T.H y) K=some r->∃ E1 H1,K x E1 H1=some r/\Left P hint sh O Γ0 Pu0 Hb I0 Γ1 Pu1 H1 I E1 E':=by
 unfold XK.env at he;split at he
 .rename_i id j
  replace he:=ad he;cases he.2;have:=beq_true he.1;subst this;obtain ⟨Γ',Pu',l1,_⟩:=hl.Sm T t1 hs0 hn hck h;exact ⟨Γ',Pu',fun {Z r K} hp=>⟨T.E y,T.H y,hp,l1⟩⟩
 .cases he
  obtain ⟨Γ',Pu',l1,_⟩:=hl.Sm T t1 hs0 hn hck h;exact ⟨Γ',Pu',fun {Z r K} hp=>⟨T.E y,T.H y,hp,l1⟩⟩
 .rename_i t v
  split at he
  .rename_i e hv
   cases he;have hv:=CU hv;subst hv;have l0:Left P hint sh O Γ0 Pu0 Hb I0 Γ Pu H I ⟨.c 0 (.int .i64 e) .e,.e⟩ ⟨.c 0 (.int .i64 e) .e,.e⟩:=⟨hl.dH,fun t=>⟨by
    simp only [eT,lk];cases Nat.beq 0 t
    .exact .undef _
    .exact .int _ _,.undef _⟩,hl.ex⟩
   obtain ⟨Γ',Pu',l1,_⟩:=l0.Sm T t1 hs0 hn hck h;refine ⟨Γ',Pu',fun {Z r K} hp=>⟨⟨.e,.e⟩,T.H y,?_,l1.dH,fun t=>⟨.undef _,.undef _⟩,l1.ex⟩⟩;unfold XK.go at hp;simp only at hp;split at hp
   .rename_i e' hle
    have:=(l1.env 0).1;rw [hle] at this;have hq:lk (AL.c 0 (Value.int .i64 e) .e) 0= .int .i64 e:=rfl;rw [hq] at this;cases this;exact hp
   .cases hp
  .cases he
 .cases he
theorem Ql {Γ0:aN} {Pu0:Nat->Prop} {Hb:GH} {I0:IH} (hs0:au P hint sh Γ0 Pu0 Hb I0) {n0 ck:Nat} (hn:Hb.n<=n0) (hck:Hb.ck<=ck):∀ {ex:List (XK×Tm)} {x:X} {E:GE} {E':En} {y:qK ex},Pt P hint n0 ck ex->FM ex x E H=some y->Left P hint sh O Γ0 Pu0 Hb I0 Γ Pu H I E E'->
  ∃ Γ1 Pu1,∀ {Z:Type} {r:Z} {K:X->GE->GH->Option Z},OS ex y K=some r->∃ E1 H1,K x E1 H1=some r/\Left P hint sh O Γ0 Pu0 Hb I0 Γ1 Pu1 H1 I E1 E':=by
 intro ex
 induction ex with
 |nil=>grind
 |cons p r ih=>
  intro x E E' y hok h hl;obtain ⟨k,T⟩:=p;obtain ⟨⟨t1,t2,t3⟩,hr⟩:=hok;cases r with
  |nil=>
   simp only [FM,GM] at h;split at h
   .rename_i E2 he
    exact Cl hs0 t1 (Nat.le_trans hn t2) (Nat.le_trans hck t3) he h hl
   .cases h
  |cons q r=>
   simp only [FM] at h;split at h
   .rename_i z hz
    cases h;unfold GM at hz;split at hz
    .rename_i E2 he
     exact Cl hs0 t1 (Nat.le_trans hn t2) (Nat.le_trans hck t3) he hz hl
    .cases hz
   .split at h
    .rename_i z hz
     cases h;obtain ⟨Γ1,Pu1,h1⟩:=ih hr hz hl;exact ⟨Γ1,Pu1,fun {Z r K} hp=>h1 hp⟩
    .cases h
theorem OH {n0 ck:Nat}:∀ {rd:List Nat},JZ n0 ck H rd=true->∀ k∈rd,k<n0/\H.aH k=some ck:=by
 intro rd
 induction rd with
 |nil=>grind
 |cons a r ih=>
  intro h k hk;replace h:=ae h;rcases List.mem_cons.1 hk with rfl |hk
  .replace h:=ae h.1
   refine ⟨c7 h.1,?_⟩;have h2:=h.2;split at h2
   .rename_i s et cs hg
    unfold GH.aH;rw [hg];simp only;rw [beq_true h2]
   .cases h2
  grind
structure cA (P:Program) (hint:Hint) (sh:bU) (it:bV) (n:Nat):Prop where
 run:∀ {x:it.T.ty} {y:qK it.ex} {O:Nat->Prop} {Γ0:aN} {Pu0:Nat->Prop} {Hb:GH} {I0:IH} {Γ:aN} {Pu:Nat->Prop} {I:IH} {E':En} {fi:FI} {c:Code} {ro':Option Nat} {n0:DB} {D:List Deferred},
  it.L n x=some y->au P hint sh Γ0 Pu0 Hb I0->Hb.n<=it.T.n0->Hb.ck<=it.T.ck->Left P hint sh O Γ0 Pu0 Hb I0 Γ Pu (it.T.H x) I (it.T.E x) E'->J9 P hint it.bx fi (.loop c)->dA c=it.gR->Kc Γ it.ro ro'->(∀ l,it.ro=some l->l<it.T.n0)->Aq n0 I D->n0.n<=I.n->
   BM P hint sh O Γ0 Pu0 Hb I0 it.ex y n0 it.ro D it.rd Γ I (aK P (ev P hint (cj hint) (n+it.D)) fi ro' (.loop c) E' I D)
def eH (P:Program) (hint:Hint) (bx gR:Nat) (fi:FI) (c:Code):Prop:=∀ fi' c',J9 P hint bx fi' (.loop c')->dA c'=gR->fi'=fi/\c'=c
theorem cA.of {it:bV} {hk:(Z:Type)->rW Z} {sh:bU} {fi:FI} {c:Code} (hone:eH P hint it.bx it.gR fi c) (hT:it.T.ok P hint) (hex:Pt P hint it.T.n0 it.T.ck it.ex) (ho:∀ m,rC P hint sh (hk (qK it.ex)) m)
  (h0:∀ x,it.L 0 x=none) (h:∀ m x,gC stx P sh (gv stx P sh hint (hk (qK it.ex)) (m+1+it.D)) it.bx fi it.ro c (it.T.E x) (it.T.H x) (it.Kb m)=it.L (m+1) x):∀ n,cA P hint sh it n:=by
 intro n
 induction n with
 |zero=>exact ⟨fun hL=>by grind⟩
 |succ m ih=>
  refine ⟨fun {x y O Γ0 Pu0 Hb I0 Γ Pu I E' fi' c' ro' n0 D} hL hs0 hn hck hl hin hfr hro hrl hd hn0=>?_⟩;obtain ⟨rfl,rfl⟩:=hone fi' c' hin hfr;rw [←h m x] at hL;have ok:=Ld (P:=P) (hint:=hint) (sh:=sh) (hk:=hk (qK it.ex)) (m+1+it.D) fun k _=>ho k
  obtain ⟨x1,E1,H1,Γ1,Pu1,E1',I1,D1,k1,k2,k3,k4,k5,k6,k7⟩:=MW ok hL hl.dH hl.env (hin.sub (.loop (.refl _))) hro hd hn0;have l1:Left P hint sh O Γ0 Pu0 Hb I0 Γ1 Pu1 H1 I1 E1 E1':=⟨k4,k3,Ex.trans hs0 hl.dH hl.ex k5⟩;have rds:JZ it.T.n0 it.T.ck H1 it.rd=true->∀ k∈it.rd,k<it.T.n0/\∀ l b z,Γ k=some l->l.pos=some (b,z)->I1.get b=I.get b:=fun h k hk=>by
   obtain ⟨h1,h2⟩:=OH h k hk;refine ⟨h1,fun l b z hl' hp=>?_⟩;have hkn:=hl.dH.aT k l hl';have hst:(it.T.H x).aH k=some it.T.ck:=by
    rcases k5.wx k hkn with h |h |⟨s,h,h'⟩
    .grind
    .grind
    .rw [h2] at h;cases h
     have h'':it.T.ck+1<=it.T.ck:=h';omega
   exact k5.jv k l b z it.T.ck hst h2 hl' hp
  have other:x1≠ .normal->((∀ v,x1≠ .panic v)->JZ it.T.n0 it.T.ck H1 it.rd=true)->FM it.ex x1 E1 H1=some y->BM P hint sh O Γ0 Pu0 Hb I0 it.ex y n0 it.ro D it.rd Γ I (aK P (ev P hint (cj hint) (m+1+it.D)) fi' ro' (.loop c') E' I D):=by
   intro hx hrd hg;obtain ⟨Γ2,Pu2,hp⟩:=Ql hs0 hn hck hex hg l1;refine ⟨E1',I1,D1,Γ2,Pu2,x1,?_,k6,k7,fun hx k hk=>(rds (hrd hx) k hk).2,fun {Z r K} h=>hp h⟩;cases x1 with
   |normal=>grind
   |exit id=>simp only [aK,k2]
   |ret=>simp only [aK,k2]
   |panic v=>simp only [aK,k2]
  cases x1 with
  |normal=>
   simp only [bV.Kb] at k1;replace k1:=ad k1;obtain ⟨hrd,k1⟩:=k1;split at k1
   .rename_i s hs
    obtain ⟨Γ2,Pu2,l2,g2⟩:=l1.Sm it.T hT hs0 hn hck hs;have hro2:Kc Γ2 it.ro ro':=by
     rcases hro with h1 |⟨l,b,loc,h1,h2,h3,h4⟩
     .exact .inl h1
     .exact .inr ⟨l,b,loc,h1,h2,g2 _ _ (hrl l h1) (k5.g _ _ h3),h4⟩
    obtain ⟨E2',I2,D2,Γ3,Pu3,x2,j1,j2,j3,j5,j4⟩:=ih.run k1 hs0 hn hck l2 hin hfr hro2 hrl k6 (Nat.le_trans hn0 k5.n);refine ⟨E2',I2,D2,Γ3,Pu3,x2,?_,j2,fun h=>(j3 h).trans (k7 h),fun hx k hk l b z hl' hp=>?_,j4⟩
    case refine_2=>
     obtain ⟨h1,h2⟩:=rds hrd k hk;exact (j5 hx k hk l b z (g2 k l h1 (k5.g k l hl')) hp).trans (h2 l b z hl' hp)
    rw [show m+1+it.D=(m+it.D)+1 by omega] at k2 ⊢;simp only [aK,k2];exact j1
   .cases k1
  |exit id=>replace k1:=ad k1;grind
  |ret=>replace k1:=ad k1;grind
  |panic v=>exact other (by simp) (fun h=>absurd rfl (h v)) k1
theorem Hu {a b:Option Nat} (h:ve a b=true):a=b:=by
 unfold ve at h;split at h
 .rfl
 .simp_all
 .cases h
theorem GH.lY (H1:GH) (k:Nat) (s:Nat) (o:bu) (j:Nat):(H1.back k (some (s,o))).get j=if j=k then some o else H1.get j:=by
 have:=GH.ag ⟨H1.t,H1.n,s⟩ k o j;exact this
theorem GH.fL (H1:GH) (k:Nat) (s:Nat) (o:bu) (j:Nat):(H1.back k (some (s,o))).aH j=if j=k then some s else H1.aH j:=by
 have:=GH.eZ ⟨H1.t,H1.n,s⟩ k o j;exact this
theorem au.back (hs:au P hint sh Γ Pu H I) {k s:Nat} {o:bu} (hg:H.get k=some o) (hst:H.aH k=some s) (h1:au P hint sh Γ1 Pu1 H1 I1) (e1:Ex (bk Γ (H.del k) I) Γ Pu (H.del k) I Γ1 Pu1 H1 I1):
  au P hint sh Γ1 Pu1 (H1.back k (some (s,o))) I1/\Ex (bk Γ H I) Γ Pu H I Γ1 Pu1 (H1.back k (some (s,o))) I1:=by
 obtain ⟨l,hl,_⟩:=hs.obj k o hg;obtain ⟨sd,ed⟩:=hs.drop k;have kv:=e1.cy sd;have hblk:o.cY=true->∀ b,At I l o b->I1.get b=I.get b:=fun hm b hat=>e1.cE b (hs.bJ ⟨k,o,l,hg,hm,hl,hat⟩) (hs.Gt hg hm hl hat)
 have hpos:o.cY=true->∀ b x,l.pos=some (b,x)->I1.get b=I.get b:=fun hm b x hp=>hblk hm b (.inl ⟨x,hp⟩)
 have hat1:o.cY=true->∀ b,At I1 l o b->At I l o b:=fun hm b hat=>hat.congr (hpos hm)
 have sep1:o.cY=true->∀ b,At I l o b->¬ bk Γ1 H1 I1 b:=fun hm b hat ho=>
  hs.Gt hg hm hl hat (e1.own b (hs.bJ ⟨k,o,l,hg,hm,hl,hat⟩) ho)
 have ownI:∀ b,bk Γ1 (H1.back k (some (s,o))) I1 b->bk Γ1 H1 I1 b\/(o.cY=true/\At I l o b):=by
  rintro b ⟨j,oj,lj,g1,g2,g3,g4⟩;rw [GH.lY] at g1;split at g1
  .rename_i hj
   subst hj;cases g1;cases (e1.g _ _ hl).symm.trans g3
   grind
  .exact .inl ⟨j,oj,lj,g1,g2,g3,g4⟩
 refine ⟨⟨?_,?_,?_,h1.aT,h1.fresh,h1.pu,h1.ro,h1.gn,h1.cq,?_,h1.FT⟩,⟨e1.g,e1.hn,e1.n,e1.p,fun b hb ho=>e1.cE b hb fun h=>ho (ed.own b hb h),?_,?_,e1.ck,?_,?_⟩⟩
 .intro j oj g1
  rw [GH.lY] at g1;split at g1
  .rename_i hj
   subst hj;cases g1;exact ⟨l,e1.g _ _ hl,hs.dF ⟨e1.g,e1.p,kv.i⟩ hg hl hblk⟩
  .exact h1.obj j oj g1
 .intro i j oi oj li lj b g1 g2 m1 m2 q1 q2 t1 t2
  rw [GH.lY] at g1 g2;split at g1<;>split at g2
  .omega
  .rename_i a b
   subst a;cases g1;cases (e1.g _ _ hl).symm.trans q1;exact absurd ⟨j,oj,lj,g2,m2,q2,t2⟩ (sep1 m1 _ (hat1 m1 _ t1))
  .rename_i a b
   subst b;cases g2;cases (e1.g _ _ hl).symm.trans q2;exact absurd ⟨i,oi,li,g1,m1,q1,t1⟩ (sep1 m2 _ (hat1 m2 _ t2))
  .exact h1.inj i j oi oj li lj b g1 g2 m1 m2 q1 q2 t1 t2
 .intro b hb hpu
  rcases ownI b hb with h |⟨hm,hat⟩
  .exact h1.sep b h hpu
  .have hlt:=hs.bJ ⟨k,o,l,hg,hm,hl,hat⟩
   rcases e1.pn b hlt hpu with h |h
   .exact hs.sep b ⟨k,o,l,hg,hm,hl,hat⟩ h
   .exact hs.Gt hg hm hl hat h
 .intro j t ht
  rw [GH.fL] at ht;split at ht
  .cases ht;exact Nat.lt_of_lt_of_le (hs.st k s hst) e1.ck
  .exact h1.st j t ht
 .intro b hb ho
  rcases ownI b ho with h |⟨hm,hat⟩
  .exact ed.own b hb (e1.own b hb h)
  .exact ⟨k,o,l,hg,hm,hl,hat⟩
 .intro b hb hpu
  rcases e1.pn b hb hpu with h |h
  .exact .inl h
  .exact .inr (ed.own b hb h)
 .intro j hj
  rw [GH.fL];split
  .grind
  .rename_i hjk
   rcases e1.wx j hj with h |h |h
   .exact .inl h
   .rw [GH.eu,if_neg hjk] at h;grind
   .exact .inr (.inr h)
 .intro j lj b x t a1 a2 a3 a4
  rw [GH.fL] at a2;split at a2
  .rename_i hjk
   subst hjk;cases hl.symm.trans a3;exact hs.ey ⟨e1.g,e1.p,kv.i⟩ a1 hl a4 fun o' g' hm=>by
    grind
  .rename_i hjk
   exact e1.jv j lj b x t (by rw [GH.eu,if_neg hjk];exact a1) a2 a3 a4
theorem au.old (hs:au P hint sh Γ Pu H I) (h1:au P hint sh Γ1 Pu1 H1 I1) (e1:Ex (bk Γ H I) Γ Pu H I Γ1 Pu1 H1 I1) {k:Nat} (hkeep:∀ l b z,Γ k=some l->l.pos=some (b,z)->I1.get b=I.get b):
  au P hint sh Γ1 Pu1 (H1.old k H) I1/\Ex (bk Γ H I) Γ Pu H I Γ1 Pu1 (H1.old k H) I1:=by
 unfold GH.old;split
 .rename_i s et cs s1 et1 cs1 hk hk1
  have hg:H.get k=some (.cells et cs true):=by unfold GH.get;rw [hk]
  have hst:H.aH k=some s:=by unfold GH.aH;rw [hk]
  have hg1:H1.get k=some (.cells et1 cs1 true):=by unfold GH.get;rw [hk1]
  obtain ⟨l,hl,_⟩:=hs.obj k _ hg;have hl1:=e1.g _ _ hl;have kv:=e1.cy hs;have pos:∀ {J:IH} {b:Nat} {et:TypeId} {cs:List TV},At J l (.cells et cs true) b->∃ z,l.pos=some (b,z):=fun h=>h.elim id fun h=>False.elim h
  have tr:∀ {p:Nat} {op:bu} {lp:Loc} {b:Nat},(H1.back k (some (s,.cells et cs true))).get p=some op->op.cY=true->Γ1 p=some lp->At I1 lp op b->∃ o',H1.get p=some o'/\o'.cY=true/\At I1 lp o' b:=by
   intro p op lp b y1 y2 y3 y4;rw [GH.lY] at y1;by_cases hpk:p=k
   .rw [if_pos hpk] at y1
    rw [hpk] at y3 ⊢;cases y1;cases hl1.symm.trans y3;exact ⟨_,hg1,rfl,.inl (pos y4)⟩
   .rw [if_neg hpk] at y1
    exact ⟨op,y1,y2,y4⟩
  have ownI:∀ b,bk Γ1 (H1.back k (some (s,.cells et cs true))) I1 b->bk Γ1 H1 I1 b:=by
   rintro b ⟨j,oj,lj,g1,g2,g3,g4⟩;obtain ⟨o',h1',h2',h3'⟩:=tr g1 g2 g3 g4;exact ⟨j,o',lj,h1',h2',g3,h3'⟩
  refine ⟨⟨?_,?_,fun b hb=>h1.sep b (ownI b hb),h1.aT,h1.fresh,h1.pu,h1.ro,h1.gn,h1.cq,?_,h1.FT⟩,⟨e1.g,e1.hn,e1.n,e1.p,e1.cE,fun b hb ho=>e1.own b hb (ownI b ho),e1.pn,e1.ck,?_,?_⟩⟩
  .intro j oj g1
   rw [GH.lY] at g1;split at g1
   .rename_i hj
    subst hj;cases g1;exact ⟨l,hl1,hs.dF kv hg hl fun _ b hat=>by
     obtain ⟨z,hz⟩:=pos hat;exact hkeep l b z hl hz⟩
   .exact h1.obj j oj g1
  .intro i j oi oj li lj b g1 g2 m1 m2 q1 q2 t1 t2
   obtain ⟨o1,a1,a2,a3⟩:=tr g1 m1 q1 t1;obtain ⟨o2,b1,b2,b3⟩:=tr g2 m2 q2 t2;exact h1.inj i j o1 o2 li lj b a1 b1 a2 b2 q1 q2 a3 b3
  .intro j t ht
   rw [GH.fL] at ht;split at ht
   .cases ht;exact Nat.lt_of_lt_of_le (hs.st k s hst) e1.ck
   .exact h1.st j t ht
  .intro j hj
   rw [GH.fL];split
   .rename_i hjk;subst hjk;exact .inr (.inl hst.symm)
   .exact e1.wx j hj
  .intro j lj b x t a1 a2 a3 a4
   rw [GH.fL] at a2;split at a2
   .rename_i hjk
    subst hjk;exact hkeep lj b x a3 a4
   .exact e1.jv j lj b x t a1 a2 a3 a4
 grind
theorem au.Rb (hs:au P hint sh Γ Pu H I):∀ {rd:List Nat} {H1:GH},au P hint sh Γ1 Pu1 H1 I1->Ex (bk Γ H I) Γ Pu H I Γ1 Pu1 H1 I1->(∀ k∈rd,∀ l b z,Γ k=some l->l.pos=some (b,z)->I1.get b=I.get b)->
  au P hint sh Γ1 Pu1 (Go.Gv.Rb rd H H1) I1/\Ex (bk Γ H I) Γ Pu H I Γ1 Pu1 (Go.Gv.Rb rd H H1) I1:=by
 intro rd
 induction rd with
 |nil=>intro H1 h1 e1 _;exact ⟨h1,e1⟩
 |cons k r ih=>
  intro H1 h1 e1 hk;obtain ⟨h2,e2⟩:=ih h1 e1 fun j hj=>hk j (zan _ hj)
  exact hs.old h2 e2 (hk k List.mem_cons_self)
theorem RT:∀ {fr:List Nat} {H:GH},(Go.Gv.eS fr H).n=H.n/\(Go.Gv.eS fr H).ck=H.ck:=by
 intro fr
 induction fr with
 |nil=>intro H;exact ⟨rfl,rfl⟩
 |cons k r ih=>intro H;exact ih (H:=H.del k)
theorem au.eS (hs:au P hint sh Γ Pu H I):∀ (fr:List Nat) ,au P hint sh Γ Pu (Go.Gv.eS fr H) I/\Ex (bk Γ H I) Γ Pu H I Γ Pu (Go.Gv.eS fr H) I:=by
 intro fr
 induction fr generalizing H with
 |nil=>exact ⟨hs,Ex.refl hs⟩
 |cons k r ih=>
  obtain ⟨s1,e1⟩:=hs.drop k;obtain ⟨s2,e2⟩:=ih s1;exact ⟨s2,Ex.trans hs s1 e1 e2⟩
theorem au.uH (hs:au P hint sh Γ Pu H I) (h1:au P hint sh Γ1 Pu1 H1 I1):∀ {fr:List Nat},Ex (bk Γ (Go.Gv.eS fr H) I) Γ Pu (Go.Gv.eS fr H) I Γ1 Pu1 H1 I1->au P hint sh Γ1 Pu1 (Go.Gv.uH fr H H1) I1/\Ex (bk Γ H I) Γ Pu H I Γ1 Pu1 (Go.Gv.uH fr H H1) I1:=by
 intro fr
 induction fr generalizing H with
 |nil=>intro e;exact ⟨h1,e⟩
 |cons k r ih=>
  intro e;obtain ⟨sd,ed⟩:=hs.drop k;obtain ⟨s2,e2⟩:=ih sd e;unfold Go.Gv.uH;cases hq:H.t.k9 k with
  |none=>exact ⟨s2,ed.trans hs sd e2⟩
  |some p=>
   obtain ⟨s,o⟩:=p;exact hs.back (by unfold GH.get;rw [hq]) (by unfold GH.aH;rw [hq]) s2 e2
theorem cA.eR {it:bV} {n:Nat} (hok:∀ m,cA P hint sh it m) (hT:it.T.ok P hint) {fi:FI} {ro':Option Nat} {c:Code} {E:GE} {E':En} {K:X->GE->GH->Option Z} {n0:DB} {D:List Deferred} (hfr:dA c=it.gR)
  (h:it.eR Z n E H K=some (some r)) (hs:au P hint sh Γ Pu H I) (he:ER Γ Pu I E E') (hf:J9 P hint it.bx fi (.loop c)) (hr:Kc Γ it.ro ro') (hd:Aq n0 I D) (hn:n0.n<=I.n):dE P hint sh K r Γ Pu H I n0 it.ro D (aK P (ev P hint (cj hint) n) fi ro' (.loop c) E' I D):=by
 unfold bV.eR at h;replace h:=ad h;obtain ⟨hb,h⟩:=h;replace hb:=ae hb;obtain ⟨hb,hb3⟩:=hb;replace hb:=ae hb;obtain ⟨hb1,hb2⟩:=hb;have n1:=aF hb1;have n2:=beq_true hb2;have n3:=aF hb3;split at h
 .rename_i x hx
  cases hL:it.L (n - it.D) x with
  |none=>grind
  |some y=>
   rw [hL] at h;simp only [zaa,Option.some.injEq] at h;obtain ⟨sd,ed⟩:=hs.eS it.fr;have en:(eS it.fr H).n=H.n/\(eS it.fr H).ck=H.ck:=by
    exact RT
   have l0:Left P hint sh (bk Γ (eS it.fr H) I) Γ Pu (eS it.fr H) I Γ Pu (eS it.fr H) I E E':=⟨sd,he,Ex.refl sd⟩;obtain ⟨Γ2,Pu2,l2,g2⟩:=l0.Sm it.T hT sd (by omega) (by omega) hx;have hrl:∀ l,it.ro=some l->l<it.T.n0:=fun l hl=>by
    rcases hr with ⟨h1,_⟩ |⟨l',b,loc,h1,h2,h3,h4⟩
    .grind
    .rw [h1] at hl;cases hl
     rw [←n2];exact hs.aT _ _ h3
   have hro2:Kc Γ2 it.ro ro':=by
    rcases hr with h1 |⟨l,b,loc,h1,h2,h3,h4⟩
    .exact .inl h1
    .exact .inr ⟨l,b,loc,h1,h2,g2 _ _ (hrl l h1) h3,h4⟩
   obtain ⟨E2',I2,D2,Γ3,Pu3,x2,j1,j2,j3,j5,j4⟩:=(hok (n - it.D)).run hL sd (by omega) (by omega) l2 hf hfr hro2 hrl hd hn;rw [show n - it.D+it.D=n by omega] at j1;obtain ⟨E3,H3,q1,q2⟩:=j4 h;have hrx:au P hint sh Γ3 Pu3 (Un x2 it.rd (eS it.fr H) H3) I2/\Ex (bk Γ (eS it.fr H) I) Γ Pu (eS it.fr H) I Γ3 Pu3 (Un x2 it.rd (eS it.fr H) H3) I2:=by
    have go:(∀ v,x2≠ .panic v)->au P hint sh Γ3 Pu3 (Rb it.rd (eS it.fr H) H3) I2/\Ex (bk Γ (eS it.fr H) I) Γ Pu (eS it.fr H) I Γ3 Pu3 (Rb it.rd (eS it.fr H) H3) I2:=fun hx=>
     sd.Rb q2.dH q2.ex fun k hk l b z hl' hp=>j5 hx k hk l b z (g2 k l (by rw [←n2,←en.1];exact sd.aT k l hl') hl') hp
    cases x2 with
    |panic v=>exact ⟨q2.dH,q2.ex⟩
    |normal=>exact go fun v h=>by cases h
    |exit id=>exact go fun v h=>by cases h
    |ret=>exact go fun v h=>by cases h
   obtain ⟨s4,e4⟩:=hs.uH hrx.1 hrx.2;exact ⟨x2,E3,_,Γ3,Pu3,E2',I2,D2,q1,j1,q2.env,s4,e4,j2,j3⟩
 .cases h
theorem K4 {f:FuncId}:∀ {l:List fH} {it:fH},findF f l=some it->it∈l/\it.f=f:=by
 intro l
 induction l with
 |nil=>intro it h;cases h
 |cons a r ih=>
  intro it h;simp only [findF] at h;cases hb:Nat.beq a.f f with
  |true=>simp_all
  |false=>grind
theorem Qf {bx gR:Nat} {ro:Option Nat} {N:Nat} {K:X->GE->GH->Option Z} {E:GE} {q:Option Z}:∀ {l:List bV},IA Z bx gR ro l N E H K=some q->∃ it,it∈l/\it.bx=bx/\it.gR=gR/\it.ro=ro/\it.eR Z N E H K=some q:=by
 intro l
 induction l with
 |nil=>intro h;cases h
 |cons a r ih=>
  intro h;simp only [IA] at h;have rest:IA Z bx gR ro r N E H K=some q->∃ it,it∈a::r/\it.bx=bx/\it.gR=gR/\it.ro=ro/\it.eR Z N E H K=some q:=fun h=>by
   grind
  cases hb:(Nat.beq a.bx bx &&Nat.beq a.gR gR &&ve a.ro ro) with
  |true=>
   rw [hb] at h;simp only [zac] at h;split at h
   .rename_i x hx
    cases h;replace hb:=ae hb;have h2:=ae hb.1;exact ⟨a,List.mem_cons_self,beq_true h2.1,beq_true h2.2,Hu hb.2,hx⟩
   grind
  |false=>grind
structure ab (P:Program) (hint:Hint) (sh:bU) (k:dq):Prop where
 fns:∀ it∈k.fns,∀ n,ig P hint sh it n
 loops:∀ it∈k.loops,(∀ n,cA P hint sh it n)/\it.T.ok P hint
theorem ab.nil:ab P hint sh ⟨[],[]⟩:=⟨(fun it h=>by cases h),(fun it h=>by cases h)⟩
theorem ab.fn {k:dq} (h:ab P hint sh k) {it:fH} (hi:∀ n,ig P hint sh it n):ab P hint sh ⟨it::k.fns,k.loops⟩:=
 ⟨fun a ha=>by
  rcases List.mem_cons.1 ha with rfl |ha
  .exact hi
  .exact h.fns a ha,h.loops⟩
theorem ab.loop {k:dq} (h:ab P hint sh k) {it:bV} (hi:∀ n,cA P hint sh it n) (hT:it.T.ok P hint):ab P hint sh ⟨k.fns,it::k.loops⟩:=
 ⟨h.fns,fun a ha=>by
  rcases List.mem_cons.1 ha with rfl |ha
  .grind
  .exact h.loops a ha⟩
theorem ab.eR {k:dq} (h:ab P hint sh k) (n:Nat):rC P hint sh (k.hk Z) n where
 call:=fun {f g args args' H K r Γ Pu I} hg hr hs ha=>by
  simp only [dq.hk] at hg;split at hg
  .rename_i it hit
   cases hg;obtain ⟨hm,rfl⟩:=K4 hit;exact ig.eR (fun m _=>h.fns it hm m) hr hs ha
  .cases hg
 loop:=fun {bx fi ro ro' c g E E' H K r Γ Pu I n0 D} hg hr hs he hf hro hd hn=>by
  simp only [dq.hk] at hg;split at hg
  .cases hg
   obtain ⟨it,hm,h1,h2,h3,hq⟩:=Qf hr;subst h1 h3;exact cA.eR (h.loops it hm).1 (h.loops it hm).2 h2.symm hq hs he hf hro hd hn
  .cases hg
def ec:Code->List Code
 | .seq a b=>ec a++ec b
 | .cond _ a b=>ec a++ec b
 | .block _ a=>ec a
 | .loop a=>a::ec a
 | .rangeFunc _ _ a b=>ec a++ec b
 | .scope a=>ec a
 |_=> []
def dk:Code->List (List Tmp×Code×Code)
 | .seq a b=>dk a++dk b
 | .cond _ a b=>dk a++dk b
 | .block _ a=>dk a
 | .loop a=>dk a
 | .rangeFunc _ ps a b=>(ps.toList,a,b)::(dk a++dk b)
 | .scope a=>dk a
 |_=> []
theorem N5 {c b:Code} (h:Sub (.loop c) b):c∈ec b:=by
 generalize hq:Code.loop c=q at h
 induction h with
 |refl=>subst hq;exact List.mem_cons_self
 |MY _ ih=>exact List.mem_append_left _ (ih hq)
 |NA _ ih=>exact List.mem_append_right _ (ih hq)
 |CJ _ ih=>exact List.mem_append_left _ (ih hq)
 |De _ ih=>exact List.mem_append_right _ (ih hq)
 |block _ ih=>exact ih hq
 |loop _ ih=>exact zan _ (ih hq)
 |eo _ ih=>exact List.mem_append_left _ (ih hq)
 |body _ ih=>exact List.mem_append_right _ (ih hq)
 |scope _ ih=>exact ih hq
theorem J0 {f:Operand} {ps:Array Tmp} {x y b:Code} (h:Sub (.rangeFunc f ps x y) b):(ps.toList,x,y)∈dk b:=by
 generalize hq:Code.rangeFunc f ps x y=q at h
 induction h with
 |refl=>subst hq;exact List.mem_cons_self
 |MY _ ih=>exact List.mem_append_left _ (ih hq)
 |NA _ ih=>exact List.mem_append_right _ (ih hq)
 |CJ _ ih=>exact List.mem_append_left _ (ih hq)
 |De _ ih=>exact List.mem_append_right _ (ih hq)
 |block _ ih=>exact ih hq
 |loop _ ih=>exact ih hq
 |eo _ ih=>exact zan _ (List.mem_append_left _ (ih hq))
 |body _ ih=>exact zan _ (List.mem_append_right _ (ih hq))
 |scope _ ih=>exact ih hq
noncomputable section
def zw (P:Program) (bx:Nat):Code:=match P.funcs[bx]? with
 |some fn=>match fn.body with
  |some b=>b
  |none=> .skip
 |none=> .skip
def k8 (P:Program) (hint:Hint) (bx:Nat):FI:=match P.funcs[bx]? with
 |some fn=>pE hint bx fn
 |none=>⟨0,[],[]⟩
def pc (P:Program) (bx gR:Nat):List Code:=(ec (zw P bx)).filter fun c=>Nat.beq (dA c) gR
def Dz (P:Program) (bx gR:Nat):Code:=(pc P bx gR).headD .skip
def o9 (P:Program) (bx gR:Nat):List (List Tmp×Code×Code):=(dk (zw P bx)).filter fun c=>Nat.beq (dA c.2.2) gR
def aJ (P:Program) (bx gR:Nat):List Tmp×Code×Code:=(o9 P bx gR).headD ([],.skip,.skip)
end
theorem Dc {α:Type} {l:List α} {d a:α} (h:Nat.beq l.length 1=true) (ha:a∈l):a=l.headD d:=by
 cases l with
 |nil=>cases ha
 |cons b r=>
  simp_all
theorem eH.of {bx gR:Nat} (h:Nat.beq (pc P bx gR).length 1=true):eH P hint bx gR (k8 P hint bx) (Dz P bx gR):=by
 intro fi' c' ⟨fn,b,h1,h2,h3,h4⟩ hr;refine ⟨by unfold k8;grind,Dc h ?_⟩;unfold pc zw;rw [h1];simp only [h2];exact List.mem_filter.2 ⟨N5 h4,by simp_all⟩
theorem oe.of {bx gR:Nat} (h:Nat.beq (o9 P bx gR).length 1=true) (hr:dA (aJ P bx gR).2.2=gR):oe P hint bx (k8 P hint bx) (aJ P bx gR).1 (aJ P bx gR).2.1 (aJ P bx gR).2.2:=by
 intro f qs asg' body' fi' ⟨fn,b,h1,h2,h3,h4⟩ hb;rw [hr] at hb;have hm:(qs.toList,asg',body')∈o9 P bx gR:=by
  unfold o9 zw;rw [h1];simp only [h2];exact List.mem_filter.2 ⟨J0 h4,by simp_all⟩
 have he:=Dc (d:=([],.skip,.skip)) h hm;refine ⟨by unfold k8;grind,?_,?_,?_⟩
 .exact congrArg (·.1) he
 .exact congrArg (·.2.1) he
 .exact congrArg (·.2.2) he
end
end Go.Gv
