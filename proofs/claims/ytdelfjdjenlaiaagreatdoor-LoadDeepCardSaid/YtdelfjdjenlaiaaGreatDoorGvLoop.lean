/- Loops that plain functions stand for; all that is known, at each level. -/
import Derived.Test.YtdelfjdjenlaiaaGreatDoorGvHook
set_option linter.unusedSimpArgs false
set_option linter.unusedVariables false
namespace Go.Gv
open Go Go.Iv
section
variable {P:Program} {hint:Hint} {sh:cA} {O:Nat->Prop} {Γ Γ1 Γ':bc} {Pu Pu1:Nat->Prop} {H H1:GH} {I I1:IH} {β:Type} {r:β}
def VC (P:Program) (hint:Hint) (n0 ck:Nat):List (XK×Tm)->Prop
 | []=>True
 |(_,T)::r=>(T.ok P hint/\n0<=T.n0/\ck<=T.ck)/\VC P hint n0 ck r
structure Left (P:Program) (hint:Hint) (sh:cA) (O:Nat->Prop) (Γ0:bc) (Pu0:Nat->Prop) (H0:GH) (I0:IH) (Γ:bc) (Pu:Nat->Prop) (H:GH) (I:IH) (E:GE) (E':En):Prop where
 dI:aw P hint sh Γ Pu H I
 env:ER Γ Pu I E E'
 ex:Ex O Γ0 Pu0 H0 I0 Γ Pu H I
theorem Bs (hs:aw P hint sh Γ Pu H I) (t:TV):aw P hint sh Γ Pu (vP t H) I/\Ex (bx Γ H I) Γ Pu H I Γ Pu (vP t H) I:=by
 unfold vP;split
 ·exact mZ hs _
 ·exact ⟨hs,Ex.refl hs⟩
theorem Od:∀ {l:List T1} {vs:List TV} {H:GH},aw P hint sh Γ Pu H I->aw P hint sh Γ Pu (rI l vs H) I/\Ex (bx Γ H I) Γ Pu H I Γ Pu (rI l vs H) I:=by
 intro l
 induction l with
 |nil=>intro vs H hs;unfold rI;exact ⟨hs,Ex.refl hs⟩
 |cons t r ih=>
  intro vs H hs;cases vs with
  |nil=>cases t<;>exact ⟨hs,Ex.refl hs⟩
  |cons v vs=>
   cases t with
   |gZ c et e no net ne em=>
    obtain ⟨s1,e1⟩:=Bs hs v;obtain ⟨s2,e2⟩:=ih (vs:=vs) s1;exact ⟨s2,Ex.trans hs s1 e1 e2⟩
   |_=>exact ih hs
theorem DQ:∀ {l:List (Nat×OT)} {H:GH},aw P hint sh Γ Pu H I->aw P hint sh Γ Pu (nw l H) I/\Ex (bx Γ H I) Γ Pu H I Γ Pu (nw l H) I:=by
 intro l
 induction l with
 |nil=>intro H hs;exact ⟨hs,Ex.refl hs⟩
 |cons p r ih=>
  intro H hs;obtain ⟨id,t⟩:=p;cases t with
  |nest et e no net ne em=>
   obtain ⟨s1,e1⟩:=mZ hs id;obtain ⟨s2,e2⟩:=ih s1;exact ⟨s2,Ex.trans hs s1 e1 e2⟩
  |gT kt gk k net ne=>
   obtain ⟨s1,e1⟩:=MZ hs id;obtain ⟨s2,e2⟩:=ih s1;exact ⟨s2,Ex.trans hs s1 e1 e2⟩
  |cells et l wr=>
   unfold nw;split
   ·rename_i cs _ _
    obtain ⟨s1,e1⟩:=Od (l:=l) (vs:=cs) hs;obtain ⟨s2,e2⟩:=ih s1;exact ⟨s2,Ex.trans hs s1 e1 e2⟩
   ·exact ih hs
  |_=>exact ih hs
theorem Left.norm {Γ0:bc} {Pu0:Nat->Prop} {Hb:GH} {I0:IH} (hs0:aw P hint sh Γ0 Pu0 Hb I0) {tmp:ID} {E':En}:∀ {l:List (Nat×T2)} {L L':ID} {H H':GH} {Pu:Nat->Prop},Left P hint sh O Γ0 Pu0 Hb I0 Γ Pu H I ⟨L,tmp⟩ E'->k9 l L H=(L',H')->
  ∃ Pu',Left P hint sh O Γ0 Pu0 Hb I0 Γ Pu' H' I ⟨L',tmp⟩ E':=by
 intro l
 induction l with
 |nil=>intro L L' H H' Pu hl h;unfold k9 at h;cases h;exact ⟨Pu,hl⟩
 |cons p r ih=>
  intro L L' H H' Pu hl h;have go:∀ {k:Nat} {u v:TV} {H1:GH},eX L k=u->ti H u=some (v,H1)->k9 r (nk L k v) H1=(L',H')->∃ Pu',Left P hint sh O Γ0 Pu0 Hb I0 Γ Pu' H' I ⟨L',tmp⟩ E':=by
   intro k u v H1 hk hp hn;have hr:=(hl.env k).1;simp only [hk] at hr;obtain ⟨Pu1,s1,e1,r1⟩:=Ep hl.dI hp hr;refine ih ⟨s1,fun t=>⟨?_,?_⟩,Ex.trans hs0 hl.dI hl.ex e1⟩ hn
   ·show GR Γ Pu1 I (eX (nk L k v) t) (lk E'.loc t)
    rw [fP];split
    ·rename_i ht;subst ht;exact r1
    ·exact (hl.env t).1.mono (e1.cJ hl.dI)
   ·exact (hl.env t).2.mono (e1.cJ hl.dI)
  unfold k9 at h;split at h
  ·rename_i hx;cases hx
  ·rename_i hx
   cases hx;split at h
   ·rename_i hk
    split at h
    ·rename_i hp;exact go hk hp h
    ·exact ih hl h
   ·rename_i hk
    split at h
    ·rename_i hp;exact go hk hp h
    ·exact ih hl h
   ·exact ih hl h
  ·rename_i hx
   cases hx;obtain ⟨s1,e1⟩:=Bs hl.dI (eX _ _);exact ih ⟨s1,hl.env,Ex.trans hs0 hl.dI hl.ex e1⟩ h
  ·rename_i hx
   cases hx;exact ih hl h
theorem Left.Wl (T:Tm) (hT:T.ok P hint) {Γ0:bc} {Pu0:Nat->Prop} {Hb:GH} {I0:IH} (hs0:aw P hint sh Γ0 Pu0 Hb I0) {E:GE} {E':En} (h:Left P hint sh O Γ0 Pu0 Hb I0 Γ Pu H I E E') (hn:Hb.n<=T.n0) (hck:Hb.ck<=T.ck) {x:T.ty} (hg:T.take E H=some x):
  ∃ Γ' Pu',Left P hint sh O Γ0 Pu0 Hb I0 Γ' Pu' (T.H x) I (T.E x) E'/\(∀ id l,id<T.n0->Γ id=some l->Γ' id=some l):=by
 unfold Tm.take at hg;split at hg;rename_i L H1 hq;obtain ⟨q1,q2⟩:=DQ (l:=T.jF) h.dI;obtain ⟨Pu',h⟩:=Left.norm hs0 ⟨q1,h.env,Ex.trans hs0 h.dI h.ex q2⟩ hq;obtain ⟨Γ',s1,e1,g1,o1,n1⟩:=T.gX hT h.dI h.env hg;exact ⟨Γ',Pu',⟨s1,e1,h.ex.Wl T hs0 hn hck g1 o1 n1⟩,g1⟩
theorem FQ {t:TypeId} {v:Value} {e:Int} (h:K5 t v=some e):v=PA t e:=by
 unfold K5 at h;split at h
 ·replace h:=ae h
  cases h.2;rw [beq_true h.1];rfl
 ·cases h
def Wi:OT->Bool
 | .loop .. =>false
 |_=>true
theorem Tm.dq {T:Tm} (h:T.jF.all (fun p=>Wi p.2)=true):T.ok P hint:=fun p hp=>by
 have h1:=List.all_eq_true.1 h p hp;obtain ⟨k,t⟩:=p;cases t<;>first |trivial |cases h1
def Gl (P:Program) (hint:Hint) (sh:cA) (O:Nat->Prop) (Γ0:bc) (Pu0:Nat->Prop) (H0:GH) (I0:IH) (ex:List (XK×Tm)) (y:vE ex) (n0:DB) (ro:Option Nat) (D:List Deferred) (rd:List Nat) (Γs:bc) (Is:IH) (run:eS):Prop:=
 ∃ E1' I1 D1 Γ1 Pu1 x,run=some (x,E1',I1,D1)/\Ab n0 I1 D1/\(ro.isSome=true->D1=D)/\((∀ v,x≠ .panic v)->∀ k∈rd,∀ l b z,Γs k=some l->l.pos=some (b,z)->I1.get b=Is.get b)/\
  (∀ {β:Type} {r:β} {K:X->GE->GH->Option β},T5 ex y K=some r->∃ E1 H1,K x E1 H1=some r/\Left P hint sh O Γ0 Pu0 H0 I0 Γ1 Pu1 H1 I1 E1 E1')
theorem EJ {Γ0:bc} {Pu0:Nat->Prop} {Hb:GH} {I0:IH} (hs0:aw P hint sh Γ0 Pu0 Hb I0) {k:XK} {T:Tm} (t1:T.ok P hint) (hn:Hb.n<=T.n0) (hck:Hb.ck<=T.ck) {x:X} {E E2:GE} {E':En} {y:T.ty} (he:k.env x E=some E2) (h:T.take E2 H=some y) (hl:Left P hint sh O Γ0 Pu0 Hb I0 Γ Pu H I E E'):
  ∃ Γ1 Pu1,∀ {β:Type} {r:β} {K:X->GE->GH->Option β},k.go (T.E y) (T.H y) K=some r->∃ E1 H1,K x E1 H1=some r/\Left P hint sh O Γ0 Pu0 Hb I0 Γ1 Pu1 H1 I E1 E':=by
 unfold XK.env at he;split at he
 ·rename_i id j
  replace he:=ae he;cases he.2;have:=beq_true he.1;subst this;obtain ⟨Γ',Pu',l1,_⟩:=hl.Wl T t1 hs0 hn hck h;exact ⟨Γ',Pu',fun {β r K} hp=>⟨T.E y,T.H y,hp,l1⟩⟩
 ·cases he
  obtain ⟨Γ',Pu',l1,_⟩:=hl.Wl T t1 hs0 hn hck h;exact ⟨Γ',Pu',fun {β r K} hp=>⟨T.E y,T.H y,hp,l1⟩⟩
 ·rename_i t v
  split at he
  ·rename_i e hv
   cases he;have hv:=FQ hv;subst hv;have l0:Left P hint sh O Γ0 Pu0 Hb I0 Γ Pu H I ⟨.c 0 (.int .i64 e) .e,.e⟩ ⟨.c 0 (.int .i64 e) .e,.e⟩:=⟨hl.dI,fun t=>⟨by
    simp only [eX,lk];cases Nat.beq 0 t
    ·exact .undef _
    ·exact .int _ _,.undef _⟩,hl.ex⟩
   obtain ⟨Γ',Pu',l1,_⟩:=l0.Wl T t1 hs0 hn hck h;refine ⟨Γ',Pu',fun {β r K} hp=>⟨⟨.e,.e⟩,T.H y,?_,l1.dI,fun t=>⟨.undef _,.undef _⟩,l1.ex⟩⟩;unfold XK.go at hp;simp only at hp;split at hp
   ·rename_i e' hle
    have:=(l1.env 0).1;rw [hle] at this;have hq:lk (AL.c 0 (Value.int .i64 e) .e) 0= .int .i64 e:=rfl;rw [hq] at this;cases this;exact hp
   ·cases hp
  ·cases he
 ·cases he
theorem SO {Γ0:bc} {Pu0:Nat->Prop} {Hb:GH} {I0:IH} (hs0:aw P hint sh Γ0 Pu0 Hb I0) {n0 ck:Nat} (hn:Hb.n<=n0) (hck:Hb.ck<=ck):∀ {ex:List (XK×Tm)} {x:X} {E:GE} {E':En} {y:vE ex},VC P hint n0 ck ex->JO ex x E H=some y->Left P hint sh O Γ0 Pu0 Hb I0 Γ Pu H I E E'->
  ∃ Γ1 Pu1,∀ {β:Type} {r:β} {K:X->GE->GH->Option β},T5 ex y K=some r->∃ E1 H1,K x E1 H1=some r/\Left P hint sh O Γ0 Pu0 Hb I0 Γ1 Pu1 H1 I E1 E':=by
 intro ex
 induction ex with
 |nil=>intro x E E' y _ h;cases h
 |cons p r ih=>
  intro x E E' y hok h hl;obtain ⟨k,T⟩:=p;obtain ⟨⟨t1,t2,t3⟩,hr⟩:=hok;cases r with
  |nil=>
   simp only [JO,Kz] at h;split at h
   ·rename_i E2 he
    exact EJ hs0 t1 (Nat.le_trans hn t2) (Nat.le_trans hck t3) he h hl
   ·cases h
  |cons q r=>
   simp only [JO] at h;split at h
   ·rename_i z hz
    cases h;unfold Kz at hz;split at hz
    ·rename_i E2 he
     exact EJ hs0 t1 (Nat.le_trans hn t2) (Nat.le_trans hck t3) he hz hl
    ·cases hz
   ·split at h
    ·rename_i z hz
     cases h;obtain ⟨Γ1,Pu1,h1⟩:=ih hr hz hl;exact ⟨Γ1,Pu1,fun {β r K} hp=>h1 hp⟩
    ·cases h
theorem Ty {n0 ck:Nat}:∀ {rd:List Nat},L8 n0 ck H rd=true->∀ k∈rd,k<n0/\H.aT k=some ck:=by
 intro rd
 induction rd with
 |nil=>intro _ k hk;cases hk
 |cons a r ih=>
  intro h k hk;replace h:=af h;rcases List.mem_cons.1 hk with rfl |hk
  ·replace h:=af h.1
   refine ⟨cf h.1,?_⟩;have h2:=h.2;split at h2
   ·rename_i s et cs hg
    unfold GH.aT;rw [hg];simp only;rw [beq_true h2]
   ·cases h2
  ·exact ih h.2 k hk
structure ao (P:Program) (hint:Hint) (sh:cA) (it:aM) (n:Nat):Prop where
 run:∀ {x:it.T.ty} {y:vE it.ex} {O:Nat->Prop} {Γ0:bc} {Pu0:Nat->Prop} {Hb:GH} {I0:IH} {Γ:bc} {Pu:Nat->Prop} {I:IH} {E':En} {fi:FI} {c:Code} {ro':Option Nat} {n0:DB} {D:List Deferred},
  it.L n x=some y->aw P hint sh Γ0 Pu0 Hb I0->Hb.n<=it.T.n0->Hb.ck<=it.T.ck->Left P hint sh O Γ0 Pu0 Hb I0 Γ Pu (it.T.H x) I (it.T.E x) E'->Oj P hint it.bO fi (.loop c)->dL c=it.iO->Oo Γ it.ro ro'->(∀ l,it.ro=some l->l<it.T.n0)->Ab n0 I D->n0.n<=I.n->
   Gl P hint sh O Γ0 Pu0 Hb I0 it.ex y n0 it.ro D it.rd Γ I (aA P (ev P hint (cP hint) (n+it.D)) fi ro' (.loop c) E' I D)
def aL (P:Program) (hint:Hint) (bO iO:Nat) (fi:FI) (c:Code):Prop:=∀ fi' c',Oj P hint bO fi' (.loop c')->dL c'=iO->fi'=fi/\c'=c
theorem ao.of {it:aM} {hk:(β:Type)->tu β} {sh:cA} {fi:FI} {c:Code} (hone:aL P hint it.bO it.iO fi c) (hT:it.T.ok P hint) (hex:VC P hint it.T.n0 it.T.ck it.ex) (ho:∀ m,sq P hint sh (hk (vE it.ex)) m)
  (h0:∀ x,it.L 0 x=none) (h:∀ m x,gC stx P sh (gv stx P sh hint (hk (vE it.ex)) (m+1+it.D)) it.bO fi it.ro c (it.T.E x) (it.T.H x) (it.Kb m)=it.L (m+1) x):∀ n,ao P hint sh it n:=by
 intro n
 induction n with
 |zero=>exact ⟨fun hL=>by rw [h0] at hL;cases hL⟩
 |succ m ih=>
  refine ⟨fun {x y O Γ0 Pu0 Hb I0 Γ Pu I E' fi' c' ro' n0 D} hL hs0 hn hck hl hin hfr hro hrl hd hn0=>?_⟩;obtain ⟨rfl,rfl⟩:=hone fi' c' hin hfr;rw [←h m x] at hL;have ok:=Ou (P:=P) (hint:=hint) (sh:=sh) (hk:=hk (vE it.ex)) (m+1+it.D) fun k _=>ho k
  obtain ⟨x1,E1,H1,Γ1,Pu1,E1',I1,D1,k1,k2,k3,k4,k5,k6,k7⟩:=Kn ok hL hl.dI hl.env (hin.sub (.loop (.refl _))) hro hd hn0;have l1:Left P hint sh O Γ0 Pu0 Hb I0 Γ1 Pu1 H1 I1 E1 E1':=⟨k4,k3,Ex.trans hs0 hl.dI hl.ex k5⟩;have rds:L8 it.T.n0 it.T.ck H1 it.rd=true->∀ k∈it.rd,k<it.T.n0/\∀ l b z,Γ k=some l->l.pos=some (b,z)->I1.get b=I.get b:=fun h k hk=>by
   obtain ⟨h1,h2⟩:=Ty h k hk;refine ⟨h1,fun l b z hl' hp=>?_⟩;have hkn:=hl.dI.bj k l hl';have hst:(it.T.H x).aT k=some it.T.ck:=by
    rcases k5.yW k hkn with h |h |⟨s,h,h'⟩
    ·rw [h2] at h;cases h
    ·rw [←h];exact h2
    ·rw [h2] at h;cases h
     have h'':it.T.ck+1<=it.T.ck:=h';omega
   exact k5.jv k l b z it.T.ck hst h2 hl' hp
  have other:x1≠ .normal->((∀ v,x1≠ .panic v)->L8 it.T.n0 it.T.ck H1 it.rd=true)->JO it.ex x1 E1 H1=some y->Gl P hint sh O Γ0 Pu0 Hb I0 it.ex y n0 it.ro D it.rd Γ I (aA P (ev P hint (cP hint) (m+1+it.D)) fi' ro' (.loop c') E' I D):=by
   intro hx hrd hg;obtain ⟨Γ2,Pu2,hp⟩:=SO hs0 hn hck hex hg l1;refine ⟨E1',I1,D1,Γ2,Pu2,x1,?_,k6,k7,fun hx k hk=>(rds (hrd hx) k hk).2,fun {β r K} h=>hp h⟩;cases x1 with
   |normal=>exact absurd rfl hx
   |exit id=>simp only [aA,k2]
   |ret=>simp only [aA,k2]
   |panic v=>simp only [aA,k2]
  cases x1 with
  |normal=>
   simp only [aM.Kb] at k1;replace k1:=ae k1;obtain ⟨hrd,k1⟩:=k1;split at k1
   ·rename_i s hs
    obtain ⟨Γ2,Pu2,l2,g2⟩:=l1.Wl it.T hT hs0 hn hck hs;have hro2:Oo Γ2 it.ro ro':=by
     rcases hro with h1 |⟨l,b,loc,h1,h2,h3,h4⟩
     ·exact .inl h1
     ·exact .inr ⟨l,b,loc,h1,h2,g2 _ _ (hrl l h1) (k5.g _ _ h3),h4⟩
    obtain ⟨E2',I2,D2,Γ3,Pu3,x2,j1,j2,j3,j5,j4⟩:=ih.run k1 hs0 hn hck l2 hin hfr hro2 hrl k6 (Nat.le_trans hn0 k5.n);refine ⟨E2',I2,D2,Γ3,Pu3,x2,?_,j2,fun h=>(j3 h).trans (k7 h),fun hx k hk l b z hl' hp=>?_,j4⟩
    case refine_2=>
     obtain ⟨h1,h2⟩:=rds hrd k hk;exact (j5 hx k hk l b z (g2 k l h1 (k5.g k l hl')) hp).trans (h2 l b z hl' hp)
    rw [show m+1+it.D=(m+it.D)+1 by omega] at k2 ⊢;simp only [aA,k2];exact j1
   ·cases k1
  |exit id=>replace k1:=ae k1;exact other (by simp) (fun _=>k1.1) k1.2
  |ret=>replace k1:=ae k1;exact other (by simp) (fun _=>k1.1) k1.2
  |panic v=>exact other (by simp) (fun h=>absurd rfl (h v)) k1
theorem N9 {a b:Option Nat} (h:xp a b=true):a=b:=by
 unfold xp at h;split at h
 ·rfl
 ·rw [beq_true h]
 ·cases h
theorem GH.lC (H1:GH) (k:Nat) (s:Nat) (o:bL) (j:Nat):(H1.back k (some (s,o))).get j=if j=k then some o else H1.get j:=by
 have:=GH.ah ⟨H1.t,H1.n,s⟩ k o j;exact this
theorem GH.fZ (H1:GH) (k:Nat) (s:Nat) (o:bL) (j:Nat):(H1.back k (some (s,o))).aT j=if j=k then some s else H1.aT j:=by
 have:=GH.fl ⟨H1.t,H1.n,s⟩ k o j;exact this
theorem aw.back (hs:aw P hint sh Γ Pu H I) {k s:Nat} {o:bL} (hg:H.get k=some o) (hst:H.aT k=some s) (h1:aw P hint sh Γ1 Pu1 H1 I1) (e1:Ex (bx Γ (H.del k) I) Γ Pu (H.del k) I Γ1 Pu1 H1 I1):
  aw P hint sh Γ1 Pu1 (H1.back k (some (s,o))) I1/\Ex (bx Γ H I) Γ Pu H I Γ1 Pu1 (H1.back k (some (s,o))) I1:=by
 obtain ⟨l,hl,_⟩:=hs.obj k o hg;obtain ⟨sd,ed⟩:=hs.drop k;have kv:=e1.cJ sd;have hblk:o.dh=true->∀ b,At I l o b->I1.get b=I.get b:=fun hm b hat=>e1.cI b (hs.cq ⟨k,o,l,hg,hm,hl,hat⟩) (hs.Kv hg hm hl hat)
 have hpos:o.dh=true->∀ b x,l.pos=some (b,x)->I1.get b=I.get b:=fun hm b x hp=>hblk hm b (.inl ⟨x,hp⟩)
 have hat1:o.dh=true->∀ b,At I1 l o b->At I l o b:=fun hm b hat=>hat.congr (hpos hm)
 have sep1:o.dh=true->∀ b,At I l o b->¬ bx Γ1 H1 I1 b:=fun hm b hat ho=>
  hs.Kv hg hm hl hat (e1.own b (hs.cq ⟨k,o,l,hg,hm,hl,hat⟩) ho)
 have ownI:∀ b,bx Γ1 (H1.back k (some (s,o))) I1 b->bx Γ1 H1 I1 b∨(o.dh=true/\At I l o b):=by
  rintro b ⟨j,oj,lj,g1,g2,g3,g4⟩;rw [GH.lC] at g1;split at g1
  ·rename_i hj
   subst hj;cases g1;cases (e1.g _ _ hl).symm.trans g3;exact .inr ⟨g2,hat1 g2 b g4⟩
  ·exact .inl ⟨j,oj,lj,g1,g2,g3,g4⟩
 refine ⟨⟨?_,?_,?_,h1.bj,h1.fresh,h1.pu,h1.ro,h1.gn,h1.cE,?_,h1.HX⟩,⟨e1.g,e1.hn,e1.n,e1.p,fun b hb ho=>e1.cI b hb fun h=>ho (ed.own b hb h),?_,?_,e1.ck,?_,?_⟩⟩
 ·intro j oj g1
  rw [GH.lC] at g1;split at g1
  ·rename_i hj
   subst hj;cases g1;exact ⟨l,e1.g _ _ hl,hs.dR ⟨e1.g,e1.p,kv.i⟩ hg hl hblk⟩
  ·exact h1.obj j oj g1
 ·intro i j oi oj li lj b g1 g2 m1 m2 q1 q2 t1 t2
  rw [GH.lC] at g1 g2;split at g1<;>split at g2
  ·rename_i a b;rw [a,b]
  ·rename_i a b
   subst a;cases g1;cases (e1.g _ _ hl).symm.trans q1;exact absurd ⟨j,oj,lj,g2,m2,q2,t2⟩ (sep1 m1 _ (hat1 m1 _ t1))
  ·rename_i a b
   subst b;cases g2;cases (e1.g _ _ hl).symm.trans q2;exact absurd ⟨i,oi,li,g1,m1,q1,t1⟩ (sep1 m2 _ (hat1 m2 _ t2))
  ·exact h1.inj i j oi oj li lj b g1 g2 m1 m2 q1 q2 t1 t2
 ·intro b hb hpu
  rcases ownI b hb with h |⟨hm,hat⟩
  ·exact h1.sep b h hpu
  ·have hlt:=hs.cq ⟨k,o,l,hg,hm,hl,hat⟩
   rcases e1.pn b hlt hpu with h |h
   ·exact hs.sep b ⟨k,o,l,hg,hm,hl,hat⟩ h
   ·exact hs.Kv hg hm hl hat h
 ·intro j t ht
  rw [GH.fZ] at ht;split at ht
  ·cases ht;exact Nat.lt_of_lt_of_le (hs.st k s hst) e1.ck
  ·exact h1.st j t ht
 ·intro b hb ho
  rcases ownI b ho with h |⟨hm,hat⟩
  ·exact ed.own b hb (e1.own b hb h)
  ·exact ⟨k,o,l,hg,hm,hl,hat⟩
 ·intro b hb hpu
  rcases e1.pn b hb hpu with h |h
  ·exact .inl h
  ·exact .inr (ed.own b hb h)
 ·intro j hj
  rw [GH.fZ];split
  ·rename_i hjk;subst hjk;exact .inr (.inl hst.symm)
  ·rename_i hjk
   rcases e1.yW j hj with h |h |h
   ·exact .inl h
   ·rw [GH.eB,if_neg hjk] at h;exact .inr (.inl h)
   ·exact .inr (.inr h)
 ·intro j lj b x t a1 a2 a3 a4
  rw [GH.fZ] at a2;split at a2
  ·rename_i hjk
   subst hjk;cases hl.symm.trans a3;exact hs.eC ⟨e1.g,e1.p,kv.i⟩ a1 hl a4 fun o' g' hm=>by
    cases hg.symm.trans g';exact hpos hm b x a4
  ·rename_i hjk
   exact e1.jv j lj b x t (by rw [GH.eB,if_neg hjk];exact a1) a2 a3 a4
theorem aw.old (hs:aw P hint sh Γ Pu H I) (h1:aw P hint sh Γ1 Pu1 H1 I1) (e1:Ex (bx Γ H I) Γ Pu H I Γ1 Pu1 H1 I1) {k:Nat} (hkeep:∀ l b z,Γ k=some l->l.pos=some (b,z)->I1.get b=I.get b):
  aw P hint sh Γ1 Pu1 (H1.old k H) I1/\Ex (bx Γ H I) Γ Pu H I Γ1 Pu1 (H1.old k H) I1:=by
 unfold GH.old;split
 ·rename_i s et cs s1 et1 cs1 hk hk1
  have hg:H.get k=some (.cells et cs true):=by unfold GH.get;rw [hk]
  have hst:H.aT k=some s:=by unfold GH.aT;rw [hk]
  have hg1:H1.get k=some (.cells et1 cs1 true):=by unfold GH.get;rw [hk1]
  obtain ⟨l,hl,_⟩:=hs.obj k _ hg;have hl1:=e1.g _ _ hl;have kv:=e1.cJ hs;have pos:∀ {J:IH} {b:Nat} {et:TypeId} {cs:List TV},At J l (.cells et cs true) b->∃ z,l.pos=some (b,z):=fun h=>h.elim id fun h=>False.elim h
  have tr:∀ {p:Nat} {op:bL} {lp:Loc} {b:Nat},(H1.back k (some (s,.cells et cs true))).get p=some op->op.dh=true->Γ1 p=some lp->At I1 lp op b->∃ o',H1.get p=some o'/\o'.dh=true/\At I1 lp o' b:=by
   intro p op lp b y1 y2 y3 y4;rw [GH.lC] at y1;by_cases hpk:p=k
   ·rw [if_pos hpk] at y1
    rw [hpk] at y3 ⊢;cases y1;cases hl1.symm.trans y3;exact ⟨_,hg1,rfl,.inl (pos y4)⟩
   ·rw [if_neg hpk] at y1
    exact ⟨op,y1,y2,y4⟩
  have ownI:∀ b,bx Γ1 (H1.back k (some (s,.cells et cs true))) I1 b->bx Γ1 H1 I1 b:=by
   rintro b ⟨j,oj,lj,g1,g2,g3,g4⟩;obtain ⟨o',h1',h2',h3'⟩:=tr g1 g2 g3 g4;exact ⟨j,o',lj,h1',h2',g3,h3'⟩
  refine ⟨⟨?_,?_,fun b hb=>h1.sep b (ownI b hb),h1.bj,h1.fresh,h1.pu,h1.ro,h1.gn,h1.cE,?_,h1.HX⟩,⟨e1.g,e1.hn,e1.n,e1.p,e1.cI,fun b hb ho=>e1.own b hb (ownI b ho),e1.pn,e1.ck,?_,?_⟩⟩
  ·intro j oj g1
   rw [GH.lC] at g1;split at g1
   ·rename_i hj
    subst hj;cases g1;exact ⟨l,hl1,hs.dR kv hg hl fun _ b hat=>by
     obtain ⟨z,hz⟩:=pos hat;exact hkeep l b z hl hz⟩
   ·exact h1.obj j oj g1
  ·intro i j oi oj li lj b g1 g2 m1 m2 q1 q2 t1 t2
   obtain ⟨o1,a1,a2,a3⟩:=tr g1 m1 q1 t1;obtain ⟨o2,b1,b2,b3⟩:=tr g2 m2 q2 t2;exact h1.inj i j o1 o2 li lj b a1 b1 a2 b2 q1 q2 a3 b3
  ·intro j t ht
   rw [GH.fZ] at ht;split at ht
   ·cases ht;exact Nat.lt_of_lt_of_le (hs.st k s hst) e1.ck
   ·exact h1.st j t ht
  ·intro j hj
   rw [GH.fZ];split
   ·rename_i hjk;subst hjk;exact .inr (.inl hst.symm)
   ·exact e1.yW j hj
  ·intro j lj b x t a1 a2 a3 a4
   rw [GH.fZ] at a2;split at a2
   ·rename_i hjk
    subst hjk;exact hkeep lj b x a3 a4
   ·exact e1.jv j lj b x t a1 a2 a3 a4
 ·exact ⟨h1,e1⟩
theorem aw.UW (hs:aw P hint sh Γ Pu H I):∀ {rd:List Nat} {H1:GH},aw P hint sh Γ1 Pu1 H1 I1->Ex (bx Γ H I) Γ Pu H I Γ1 Pu1 H1 I1->(∀ k∈rd,∀ l b z,Γ k=some l->l.pos=some (b,z)->I1.get b=I.get b)->
  aw P hint sh Γ1 Pu1 (Go.Gv.UW rd H H1) I1/\Ex (bx Γ H I) Γ Pu H I Γ1 Pu1 (Go.Gv.UW rd H H1) I1:=by
 intro rd
 induction rd with
 |nil=>intro H1 h1 e1 _;exact ⟨h1,e1⟩
 |cons k r ih=>
  intro H1 h1 e1 hk;obtain ⟨h2,e2⟩:=ih h1 e1 fun j hj=>hk j (zak _ hj)
  exact hs.old h2 e2 (hk k List.mem_cons_self)
theorem VQ:∀ {fr:List Nat} {H:GH},(Go.Gv.eH fr H).n=H.n/\(Go.Gv.eH fr H).ck=H.ck:=by
 intro fr
 induction fr with
 |nil=>intro H;exact ⟨rfl,rfl⟩
 |cons k r ih=>intro H;exact ih (H:=H.del k)
theorem aw.eH (hs:aw P hint sh Γ Pu H I):∀ (fr:List Nat) ,aw P hint sh Γ Pu (Go.Gv.eH fr H) I/\Ex (bx Γ H I) Γ Pu H I Γ Pu (Go.Gv.eH fr H) I:=by
 intro fr
 induction fr generalizing H with
 |nil=>exact ⟨hs,Ex.refl hs⟩
 |cons k r ih=>
  obtain ⟨s1,e1⟩:=hs.drop k;obtain ⟨s2,e2⟩:=ih s1;exact ⟨s2,Ex.trans hs s1 e1 e2⟩
theorem aw.yg (hs:aw P hint sh Γ Pu H I) (h1:aw P hint sh Γ1 Pu1 H1 I1):∀ {fr:List Nat},Ex (bx Γ (Go.Gv.eH fr H) I) Γ Pu (Go.Gv.eH fr H) I Γ1 Pu1 H1 I1->aw P hint sh Γ1 Pu1 (Go.Gv.yg fr H H1) I1/\Ex (bx Γ H I) Γ Pu H I Γ1 Pu1 (Go.Gv.yg fr H H1) I1:=by
 intro fr
 induction fr generalizing H with
 |nil=>intro e;exact ⟨h1,e⟩
 |cons k r ih=>
  intro e;obtain ⟨sd,ed⟩:=hs.drop k;obtain ⟨s2,e2⟩:=ih sd e;unfold Go.Gv.yg;cases hq:H.t.lA k with
  |none=>exact ⟨s2,ed.trans hs sd e2⟩
  |some p=>
   obtain ⟨s,o⟩:=p;exact hs.back (by unfold GH.get;rw [hq]) (by unfold GH.aT;rw [hq]) s2 e2
theorem ao.aK {it:aM} {n:Nat} (hok:∀ m,ao P hint sh it m) (hT:it.T.ok P hint) {fi:FI} {ro':Option Nat} {c:Code} {E:GE} {E':En} {K:X->GE->GH->Option β} {n0:DB} {D:List Deferred} (hfr:dL c=it.iO)
  (h:it.aK β n E H K=some (some r)) (hs:aw P hint sh Γ Pu H I) (he:ER Γ Pu I E E') (hf:Oj P hint it.bO fi (.loop c)) (hr:Oo Γ it.ro ro') (hd:Ab n0 I D) (hn:n0.n<=I.n):dQ P hint sh K r Γ Pu H I n0 it.ro D (aA P (ev P hint (cP hint) n) fi ro' (.loop c) E' I D):=by
 unfold aM.aK at h;replace h:=ae h;obtain ⟨hb,h⟩:=h;replace hb:=af hb;obtain ⟨hb,hb3⟩:=hb;replace hb:=af hb;obtain ⟨hb1,hb2⟩:=hb;have n1:=aB hb1;have n2:=beq_true hb2;have n3:=aB hb3;split at h
 ·rename_i x hx
  cases hL:it.L (n - it.D) x with
  |none=>rw [hL] at h;cases h
  |some y=>
   rw [hL] at h;simp only [zaa,Option.some.injEq] at h;obtain ⟨sd,ed⟩:=hs.eH it.fr;have en:(eH it.fr H).n=H.n/\(eH it.fr H).ck=H.ck:=by
    exact VQ
   have l0:Left P hint sh (bx Γ (eH it.fr H) I) Γ Pu (eH it.fr H) I Γ Pu (eH it.fr H) I E E':=⟨sd,he,Ex.refl sd⟩;obtain ⟨Γ2,Pu2,l2,g2⟩:=l0.Wl it.T hT sd (by rw [en.1];exact Nat.le_of_eq n2) (by rw [en.2];exact n3) hx;have hrl:∀ l,it.ro=some l->l<it.T.n0:=fun l hl=>by
    rcases hr with ⟨h1,_⟩ |⟨l',b,loc,h1,h2,h3,h4⟩
    ·rw [h1] at hl;cases hl
    ·rw [h1] at hl;cases hl
     rw [←n2];exact hs.bj _ _ h3
   have hro2:Oo Γ2 it.ro ro':=by
    rcases hr with h1 |⟨l,b,loc,h1,h2,h3,h4⟩
    ·exact .inl h1
    ·exact .inr ⟨l,b,loc,h1,h2,g2 _ _ (hrl l h1) h3,h4⟩
   obtain ⟨E2',I2,D2,Γ3,Pu3,x2,j1,j2,j3,j5,j4⟩:=(hok (n - it.D)).run hL sd (by rw [en.1];exact Nat.le_of_eq n2) (by rw [en.2];exact n3) l2 hf hfr hro2 hrl hd hn;rw [show n - it.D+it.D=n by omega] at j1;obtain ⟨E3,H3,q1,q2⟩:=j4 h;have hrx:aw P hint sh Γ3 Pu3 (Yr x2 it.rd (eH it.fr H) H3) I2/\Ex (bx Γ (eH it.fr H) I) Γ Pu (eH it.fr H) I Γ3 Pu3 (Yr x2 it.rd (eH it.fr H) H3) I2:=by
    have go:(∀ v,x2≠ .panic v)->aw P hint sh Γ3 Pu3 (UW it.rd (eH it.fr H) H3) I2/\Ex (bx Γ (eH it.fr H) I) Γ Pu (eH it.fr H) I Γ3 Pu3 (UW it.rd (eH it.fr H) H3) I2:=fun hx=>
     sd.UW q2.dI q2.ex fun k hk l b z hl' hp=>j5 hx k hk l b z (g2 k l (by rw [←n2,←en.1];exact sd.bj k l hl') hl') hp
    cases x2 with
    |panic v=>exact ⟨q2.dI,q2.ex⟩
    |normal=>exact go fun v h=>by cases h
    |exit id=>exact go fun v h=>by cases h
    |ret=>exact go fun v h=>by cases h
   obtain ⟨s4,e4⟩:=hs.yg hrx.1 hrx.2;exact ⟨x2,E3,_,Γ3,Pu3,E2',I2,D2,q1,j1,q2.env,s4,e4,j2,j3⟩
 ·cases h
theorem Qr {f:FuncId}:∀ {l:List bu} {it:bu},findF f l=some it->it∈l/\it.f=f:=by
 intro l
 induction l with
 |nil=>intro it h;cases h
 |cons a r ih=>
  intro it h;simp only [findF] at h;cases hb:Nat.beq a.f f with
  |true=>rw [hb] at h;cases h;exact ⟨List.mem_cons_self,beq_true hb⟩
  |false=>rw [hb] at h;exact ⟨zak _ (ih h).1,(ih h).2⟩
theorem SY {bO iO:Nat} {ro:Option Nat} {N:Nat} {K:X->GE->GH->Option β} {E:GE} {q:Option β}:∀ {l:List aM},NC β bO iO ro l N E H K=some q->∃ it,it∈l/\it.bO=bO/\it.iO=iO/\it.ro=ro/\it.aK β N E H K=some q:=by
 intro l
 induction l with
 |nil=>intro h;cases h
 |cons a r ih=>
  intro h;simp only [NC] at h;have rest:NC β bO iO ro r N E H K=some q->∃ it,it∈a::r/\it.bO=bO/\it.iO=iO/\it.ro=ro/\it.aK β N E H K=some q:=fun h=>by
   obtain ⟨it,h1,h2⟩:=ih h;exact ⟨it,zak _ h1,h2⟩
  cases hb:(Nat.beq a.bO bO &&Nat.beq a.iO iO &&xp a.ro ro) with
  |true=>
   rw [hb] at h;simp only [zac] at h;split at h
   ·rename_i x hx
    cases h;replace hb:=af hb;have h2:=af hb.1;exact ⟨a,List.mem_cons_self,beq_true h2.1,beq_true h2.2,N9 hb.2,hx⟩
   ·exact rest h
  |false=>rw [hb] at h;exact rest h
structure ab (P:Program) (hint:Hint) (sh:cA) (k:an):Prop where
 fns:∀ it∈k.fns,∀ n,aI P hint sh it n
 loops:∀ it∈k.loops,(∀ n,ao P hint sh it n)/\it.T.ok P hint
theorem ab.nil:ab P hint sh ⟨[],[]⟩:=⟨(fun it h=>by cases h),(fun it h=>by cases h)⟩
theorem ab.fn {k:an} (h:ab P hint sh k) {it:bu} (hi:∀ n,aI P hint sh it n):ab P hint sh ⟨it::k.fns,k.loops⟩:=
 ⟨fun a ha=>by
  rcases List.mem_cons.1 ha with rfl |ha
  ·exact hi
  ·exact h.fns a ha,h.loops⟩
theorem ab.loop {k:an} (h:ab P hint sh k) {it:aM} (hi:∀ n,ao P hint sh it n) (hT:it.T.ok P hint):ab P hint sh ⟨k.fns,it::k.loops⟩:=
 ⟨h.fns,fun a ha=>by
  rcases List.mem_cons.1 ha with rfl |ha
  ·exact ⟨hi,hT⟩
  ·exact h.loops a ha⟩
theorem ab.aK {k:an} (h:ab P hint sh k) (n:Nat):sq P hint sh (k.hk β) n where
 call:=fun {f g args args' H K r Γ Pu I} hg hr hs ha=>by
  simp only [an.hk] at hg;split at hg
  ·rename_i it hit
   cases hg;obtain ⟨hm,rfl⟩:=Qr hit;exact aI.aK (fun m _=>h.fns it hm m) hr hs ha
  ·cases hg
 loop:=fun {bO fi ro ro' c g E E' H K r Γ Pu I n0 D} hg hr hs he hf hro hd hn=>by
  simp only [an.hk] at hg;split at hg
  ·cases hg
   obtain ⟨it,hm,h1,h2,h3,hq⟩:=SY hr;subst h1 h3;exact ao.aK (h.loops it hm).1 (h.loops it hm).2 h2.symm hq hs he hf hro hd hn
  ·cases hg
def eo:Code->List Code
 | .seq a b=>eo a++eo b
 | .cond _ a b=>eo a++eo b
 | .block _ a=>eo a
 | .loop a=>a::eo a
 | .rangeFunc _ _ a b=>eo a++eo b
 | .scope a=>eo a
 |_=> []
def dJ:Code->List (List Tmp×Code×Code)
 | .seq a b=>dJ a++dJ b
 | .cond _ a b=>dJ a++dJ b
 | .block _ a=>dJ a
 | .loop a=>dJ a
 | .rangeFunc _ ps a b=>(ps.toList,a,b)::(dJ a++dJ b)
 | .scope a=>dJ a
 |_=> []
theorem Ox {c b:Code} (h:Sub (.loop c) b):c∈eo b:=by
 generalize hq:Code.loop c=q at h
 induction h with
 |refl=>subst hq;exact List.mem_cons_self
 |OD _ ih=>exact List.mem_append_left _ (ih hq)
 |Ia _ ih=>exact List.mem_append_right _ (ih hq)
 |Fj _ ih=>exact List.mem_append_left _ (ih hq)
 |GP _ ih=>exact List.mem_append_right _ (ih hq)
 |block _ ih=>exact ih hq
 |loop _ ih=>exact zak _ (ih hq)
 |dZ _ ih=>exact List.mem_append_left _ (ih hq)
 |body _ ih=>exact List.mem_append_right _ (ih hq)
 |scope _ ih=>exact ih hq
theorem M9 {f:Operand} {ps:Array Tmp} {x y b:Code} (h:Sub (.rangeFunc f ps x y) b):(ps.toList,x,y)∈dJ b:=by
 generalize hq:Code.rangeFunc f ps x y=q at h
 induction h with
 |refl=>subst hq;exact List.mem_cons_self
 |OD _ ih=>exact List.mem_append_left _ (ih hq)
 |Ia _ ih=>exact List.mem_append_right _ (ih hq)
 |Fj _ ih=>exact List.mem_append_left _ (ih hq)
 |GP _ ih=>exact List.mem_append_right _ (ih hq)
 |block _ ih=>exact ih hq
 |loop _ ih=>exact ih hq
 |dZ _ ih=>exact zak _ (List.mem_append_left _ (ih hq))
 |body _ ih=>exact zak _ (List.mem_append_right _ (ih hq))
 |scope _ ih=>exact ih hq
noncomputable section
def BT (P:Program) (bO:Nat):Code:=match P.funcs[bO]? with
 |some fn=>match fn.body with
  |some b=>b
  |none=> .skip
 |none=> .skip
def jy (P:Program) (hint:Hint) (bO:Nat):FI:=match P.funcs[bO]? with
 |some fn=>cQ hint bO fn
 |none=>⟨0,[],[]⟩
def C1 (P:Program) (bO iO:Nat):List Code:=(eo (BT P bO)).filter fun c=>Nat.beq (dL c) iO
def WL (P:Program) (bO iO:Nat):Code:=(C1 P bO iO).headD .skip
def pQ (P:Program) (bO iO:Nat):List (List Tmp×Code×Code):=(dJ (BT P bO)).filter fun c=>Nat.beq (dL c.2.2) iO
def aH (P:Program) (bO iO:Nat):List Tmp×Code×Code:=(pQ P bO iO).headD ([],.skip,.skip)
end
theorem HA {α:Type} {l:List α} {d a:α} (h:Nat.beq l.length 1=true) (ha:a∈l):a=l.headD d:=by
 cases l with
 |nil=>cases ha
 |cons b r=>
  cases r with
  |nil=>simpa using ha
  |cons c r=>cases h
theorem aL.of {bO iO:Nat} (h:Nat.beq (C1 P bO iO).length 1=true):aL P hint bO iO (jy P hint bO) (WL P bO iO):=by
 intro fi' c' ⟨fn,b,h1,h2,h3,h4⟩ hr;refine ⟨by unfold jy;rw [h1];exact h3,HA h ?_⟩;unfold C1 BT;rw [h1];simp only [h2];exact List.mem_filter.2 ⟨Ox h4,by rw [hr];exact Nat.beq_refl _⟩
theorem jJ.of {bO iO:Nat} (h:Nat.beq (pQ P bO iO).length 1=true) (hr:dL (aH P bO iO).2.2=iO):jJ P hint bO (jy P hint bO) (aH P bO iO).1 (aH P bO iO).2.1 (aH P bO iO).2.2:=by
 intro f qs asg' body' fi' ⟨fn,b,h1,h2,h3,h4⟩ hb;rw [hr] at hb;have hm:(qs.toList,asg',body')∈pQ P bO iO:=by
  unfold pQ BT;rw [h1];simp only [h2];exact List.mem_filter.2 ⟨M9 h4,by show Nat.beq (dL body') iO=true;rw [←hb];exact Nat.beq_refl _⟩
 have he:=HA (d:=([],.skip,.skip)) h hm;refine ⟨by unfold jy;rw [h1];exact h3,?_,?_,?_⟩
 ·exact congrArg (·.1) he
 ·exact congrArg (·.2.1) he
 ·exact congrArg (·.2.2) he
end
end Go.Gv
