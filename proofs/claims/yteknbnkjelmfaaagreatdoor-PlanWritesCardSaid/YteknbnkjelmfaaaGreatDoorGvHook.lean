/- Functions and loops that plain functions stand for: what is to be shown of each, and that it may be used. -/
import Derived.Test.YteknbnkjelmfaaaGreatDoorGvLift
set_option linter.unusedSimpArgs false
set_option linter.unusedVariables false
namespace Go.Gv
open Go Go.Iv
abbrev aL:List (Bool×Sh)->Type
 | []=>Unit
 |(_,s)::r=>s.ty×aL r
noncomputable section
def fy:(l:List (Bool×Sh))->aL l->List TV
 | [],_=> []
 |(g,s)::r,x=>(bif g then .agg (s.dN x.1) else (s.dN x.1).headD .undef)::fy r x.2
def Af:(l:List (Bool×Sh))->List TV->GH->Option (aL l×GH)
 | [],[],H=>some ((),H)
 |(g,s)::r,t::ts,H=>bif (match t with
   | .agg _=>g
   |_=> !g) then
  match iZ t.cells H with
  |some (cs,H)=>match s.nH cs with
   |some x=>match Af r ts H with
    |some (y,H)=>some ((x,y),H)
    |none=>none
   |none=>none
  |none=>none
  else none
 |_,_,_=>none
def jM:List TV->TV
 | [v]=>v
 |vs=> .jD vs
def UO (l:List (Bool×Sh)) (v:TV) (H:GH):Option (aL l):=
 match v with
 | .jD vs=>bif Nat.beq l.length 1 then none else match Af l vs H with
  |some (x,_)=>some x
  |none=>none
 |v=>match Af l [v] H with
  |some (x,_)=>some x
  |none=>none
def zu:Sh->Bool
 | .cy _=>true
 | .cons a b=>zu a ||zu b
 |_=>false
def H0:GH:=⟨.nil,64,0⟩
structure aZ where
 f:FuncId
 pa:List (Bool×Sh)
 re:List (Bool×Sh)
 D:Nat
 F:Nat->aL pa->Option (aL re)
def aZ.body (β:Type) (it:aZ) (M:Nat) (args:List TV) (H:GH) (K:TV->GH->Option β):Option β:=
 match Af it.pa args H with
 |some (x,H')=>(it.F M x).bind fun y=>K (jM (fy it.re y)) (bif it.re.any (fun p=>zu p.2) then H' else H)
 |none=>none
def aZ.aC (β:Type) (it:aZ):Nat->List TV->GH->(TV->GH->Option β)->Option β:=fun N args H K=>
 bif Nat.ble it.D N then it.body β (N - it.D) args H K else none
inductive XK where
 |exit (id:Nat)
 |ret
def XK.XA:XK->X
 | .exit id=> .exit id
 | .ret=> .ret
def XK.is:XK->X->Bool
 | .exit id,.exit j=>Nat.beq id j
 | .ret,.ret=>true
 |_,_=>false
abbrev yA:List (XK×Tm)->Type
 | []=>Empty
 | [(_,T)]=>T.ty
 |(_,T)::r=>T.ty⊕yA r
def MX:(l:List (XK×Tm))->X->GE->GH->Option (yA l)
 | [],_,_,_=>none
 | [(k,T)],x,E,H=>bif k.is x then T.take E H else none
 |(k,T)::q::r,x,E,H=>bif k.is x then (match T.take E H with
   |some y=>some (.inl y)
   |none=>none) else match MX (q::r) x E H with
   |some y=>some (.inr y)
   |none=>none
def S6 {β:Type}:(l:List (XK×Tm))->yA l->(X->GE->GH->Option β)->Option β
 | [],_,_=>none
 | [(k,T)],y,K=>K k.XA (T.E y) (T.H y)
 |(k,T)::q::r,y,K=>match y with
  | .inl y=>K k.XA (T.E y) (T.H y)
  | .inr y=>S6 (q::r) y K
def gV:List Nat->GH->GH
 | [],H=>H
 |k::r,H=>gV r (H.del k)
def GH.back (H1:GH) (k:Nat) (p:Option (Nat×bH)):GH:=match p with
 |some p=>⟨Tr.qz (some p) (Nat.succ k) H1.t k,H1.n,H1.ck⟩
 |none=>H1
def yZ:List Nat->GH->GH->GH
 | [],_,H1=>H1
 |k::r,H,H1=>(yZ r (H.del k) H1).back k (H.t.uJ k)
structure aO where
 bM:Nat
 iI:Nat
 ro:Option Nat
 T:Tm
 ex:List (XK×Tm)
 D:Nat
 L:Nat->T.ty->Option (yA ex)
 fr:List Nat
def aO.aC (β:Type) (it:aO):Nat->GE->GH->(X->GE->GH->Option β)->Option (Option β):=fun N E H K=>
 bif Nat.ble it.D N &&Nat.beq H.n it.T.n0 &&Nat.ble H.ck it.T.ck then
  match it.T.take E (gV it.fr H) with
  |some x=>some ((it.L (N - it.D) x).bind fun y=>S6 it.ex y fun x E H1=>K x E (yZ it.fr H H1))
  |none=>none
 else none
def aO.Kb (it:aO) (m:Nat):X->GE->GH->Option (yA it.ex):=fun x E H=>match x with
 | .normal=>match it.T.take E H with
  |some s=>it.L m s
  |none=>none
 |x=>MX it.ex x E H
structure aq where
 fns:List aZ
 loops:List aO
def yq:Option Nat->Option Nat->Bool
 |none,none=>true
 |some a,some b=>Nat.beq a b
 |_,_=>false
def findF (f:FuncId):List aZ->Option aZ
 | []=>none
 |it::r=>bif Nat.beq it.f f then some it else findF f r
def Uq (bM iI:Nat) (ro:Option Nat):List aO->Option aO
 | []=>none
 |it::r=>bif Nat.beq it.bM bM &&Nat.beq it.iI iI &&yq it.ro ro then some it else Uq bM iI ro r
def MZ (β:Type) (bM iI:Nat) (ro:Option Nat):List aO->Nat->GE->GH->(X->GE->GH->Option β)->Option (Option β)
 | [],_,_,_,_=>none
 |it::r,N,E,H,K=>bif Nat.beq it.bM bM &&Nat.beq it.iI iI &&yq it.ro ro then match it.aC β N E H K with
   |some x=>some x
   |none=>MZ β bM iI ro r N E H K
  else MZ β bM iI ro r N E H K
def aq.hk (k:aq) (β:Type):tG β where
 call:=fun f=>match findF f k.fns with
  |some it=>some (it.aC β)
  |none=>none
 loop:=fun bM iI ro=>match Uq bM iI ro k.loops with
  |some _=>some (MZ β bM iI ro k.loops)
  |none=>none
end
section
variable {P:Program} {hint:Hint} {sh:cz} {O:Nat->Prop} {Γ Γ1 Γ':bj} {Pu Pu1:Nat->Prop} {H H1:GH} {I I1:IH} {β:Type} {r:β}
theorem aE.outside (hs:aE P hint sh Γ Pu H I) (hn:I.n<=I1.n) (hk:∀ b,b<I.n->I1.get b=I.get b) (hf:∀ b,I1.n<=b->I1.get b=none) (hp:∀ b,Pu1 b->∃ cs et fz ex sd,I1.get b=some (.cells cs et fz ex sd)) (hq:∀ b,b<I.n->Pu1 b->Pu b):
  aE P hint sh Γ (fun b=>Pu b∨Pu1 b) H I1/\Ex (bT Γ H I) Γ Pu H I Γ (fun b=>Pu b∨Pu1 b) H I1:=by
 have kk:db Γ Pu I Γ (fun b=>Pu b∨Pu1 b) I1:=⟨fun _ _ h=>h,fun _ h=> .inl h,fun b hb=>hk b (hs.mq hb)⟩;have hpos:∀ id o l b x,H.get id=some o->o.dw=true->Γ id=some l->l.pos=some (b,x)->I1.get b=I.get b:=fun id o l b x hg hm hl hp=>hk b (hs.dx (.pos hg hm hl hp))
 refine ⟨⟨?_,hs.M0 hpos,?_,hs.bm,hf,?_,Nat.le_trans hs.ro hn,hs.gn,hs.cB,hs.st,hs.qQ kk.p kk.i⟩,⟨fun _ _ h=>h,zam _,hn,fun _ h=> .inl h,fun b hb _=>hk b hb,fun b _ h=>pq hpos h,?_,zam _,fun _ _=> .inr (.inl rfl),?_⟩⟩
 ·intro id o hg
  obtain ⟨l,hl,_⟩:=hs.obj id o hg;exact ⟨l,hl,hs.eB kk hg hl fun hm b hat=>hk b (hs.dx ⟨id,o,l,hg,hm,hl,hat⟩)⟩
 ·intro b hb hpu
  have hb:=pq hpos hb;rcases hpu with h |h
  ·exact hs.sep b hb h
  ·exact hs.sep b hb (hq b (hs.dx hb) h)
 ·intro b hb
  rcases hb with h |h
  ·obtain ⟨cs,et,fz,ex,sd,hg⟩:=hs.pu b h
   exact ⟨cs,et,fz,ex,sd,(hk b (hs.lt hg)).trans hg⟩
  ·exact hp b h
 ·intro b hb h
  rcases h with h |h
  ·exact .inl h
  ·exact .inl (hq b hb h)
 ·intro id l b x s h1 _ hl hp'
  exact hs.eU kk h1 hl hp' fun o hg hm=>hpos id o l b x hg hm hl hp'
theorem oA (id:Nat):H0.get id=none:=rfl
theorem aE.inside (hs:aE P hint sh Γ Pu H I):aE P hint sh (fun g=>if g<bK then Γ g else none) Pu H0 I where
 obj:=fun id o h=>by rw [oA] at h;cases h
 inj:=fun id id' o o' l l' b h=>by rw [oA] at h;cases h
 sep:=fun b ⟨id,o,l,h,_⟩=>by rw [oA] at h;cases h
 bm:=fun id l h=>by
  split at h
  ·rename_i hlt
   have:bK=32:=rfl
   show id<64
   omega
  ·cases h
 fresh:=hs.fresh
 pu:=hs.pu
 ro:=hs.ro
 gn:=by decide
 cB:=fun g hg=>by
  obtain ⟨l,h1,h2⟩:=hs.cB g hg;exact ⟨l,by rw [if_pos hg];exact h1,h2⟩
 st:=fun id s h=>by cases h
 Kd:=hs.Kd
theorem Vp (b:Nat):¬ bT Γ H0 I b:=fun ⟨id,o,l,h,_⟩=>by rw [oA] at h;cases h
def ux (Pu:Nat->Prop) (I:IH):(l:List (Bool×Sh))->aL l->List Value->Prop
 | [],_,vs=>vs= []
 |(g,s)::r,x,vs=>∃ v w,vs=v::w/\te Pu I g s x.1 v/\ux Pu I r x.2 w
theorem ux.VL:∀ {l:List (Bool×Sh)} {x:aL l} {vs:List Value},ux Pu I l x vs->bI Γ Pu I (fy l x) vs:=by
 intro l
 induction l with
 |nil=>intro x vs h;unfold ux at h;subst h;exact .nil
 |cons p r ih=>
  intro x vs h;obtain ⟨g,s⟩:=p;obtain ⟨v,w,rfl,h1,h2⟩:=h;exact .cons h1.gr (ih h2)
theorem ux.mono (hp:∀ b,Pu b->Pu1 b) (hi:∀ b,Pu b->I1.get b=I.get b):∀ {l:List (Bool×Sh)} {x:aL l} {vs:List Value},ux Pu I l x vs->ux Pu1 I1 l x vs:=by
 intro l
 induction l with
 |nil=>intro x vs h;exact h
 |cons p r ih=>
  intro x vs h;obtain ⟨g,s⟩:=p;obtain ⟨v,w,rfl,h1,h2⟩:=h;exact ⟨v,w,rfl,h1.mono hp hi,ih h2⟩
theorem mO:∀ {l:List (Bool×Sh)} {ts:List TV} {vs:List Value} {x:aL l} {H H1:GH} {Pu:Nat->Prop},aE P hint sh Γ Pu H I->Af l ts H=some (x,H1)->bI Γ Pu I ts vs->
  ∃ Pu1,aE P hint sh Γ Pu1 H1 I/\Ex (bT Γ H I) Γ Pu H I Γ Pu1 H1 I/\ux Pu1 I l x vs:=by
 intro l
 induction l with
 |nil=>
  intro ts vs x H H1 Pu hs h hr;cases ts with
  |nil=>unfold Af at h;cases h;cases hr;exact ⟨Pu,hs,Ex.refl hs,rfl⟩
  |cons=>cases h
 |cons p r ih=>
  intro ts vs x H H1 Pu hs h hr;obtain ⟨g,s⟩:=p;cases hr with
  |nil=>cases h
  |cons a b=>
   rename_i t ts v vs;simp only [Af] at h;replace h:=ae h;obtain ⟨hg,h⟩:=h;split at h
   ·rename_i cs H2 hp
    split at h
    ·rename_i y hy
     split at h
     ·rename_i z H3 hz
      cases h;have hone:=Bm hp;have hc:=a.cells hone;obtain ⟨Pu1,s1,e1,r1⟩:=jN hs hp hc;obtain ⟨Pu2,s2,e2,r2⟩:=ih s1 hz (b.mono (e1.de hs));have k2:=e2.de s1;refine ⟨Pu2,s2,Ex.trans hs s1 e1 e2,v,vs,rfl,te.mono k2.p k2.i ⟨Sh.fZ hy r1,fun hgt=>?_,fun hgf=>?_⟩,r2⟩
      ·subst hgt
       cases t with
       |agg l=>cases a with |agg _=>exact ⟨_,rfl⟩
       |_=>cases hg
      ·subst hgf
       have ho:t.one=true:=by
        cases t with
        |agg l=>cases hg
        |_=>simpa [TV.cells] using hone
       exact mL (a.one ho)
     ·cases h
    ·cases h
   ·cases h
theorem sT:∀ {l:List (Bool×Sh)} {x:aL l},(fy l x).length=l.length:=by
 intro l
 induction l with
 |nil=>intro x;rfl
 |cons p r ih=>intro x;obtain ⟨g,s⟩:=p;simp [fy,ih]
theorem Si {l:List (Bool×Sh)} {t:TV} {v:Value} {x:aL l} (hs:aE P hint sh Γ Pu H I) (h:UO l t H=some x) (hr:GR Γ Pu I t v):
  ∃ Pu1 H1,aE P hint sh Γ Pu1 H1 I/\Ex (bT Γ H I) Γ Pu H I Γ Pu1 H1 I/\∀ Γ2,GR Γ2 Pu1 I (jM (fy l x)) v:=by
 unfold UO at h;split at h
 ·rename_i vs
  cases hr with |jD hr=>
  cases hb:Nat.beq l.length 1 with
  |true=>rw [hb] at h;cases h
  |false=>
   rw [hb] at h;simp only [zab] at h;split at h
   ·rename_i y H1 hd
    cases h;obtain ⟨Pu1,s1,e1,d1⟩:=mO hs hd hr;refine ⟨Pu1,H1,s1,e1,fun Γ2=>?_⟩;have hl:=sT (l:=l) (x:=x);have hg:=d1.VL (Γ:=Γ2);have:jM (fy l x)= .jD (fy l x):=by
     cases hq:fy l x with
     |nil=>rfl
     |cons a r=>
      cases r with
      |nil=>rw [hq] at hl;rw [←hl] at hb;cases hb
      |cons b r=>rfl
    rw [this];exact .jD hg
   ·cases h
 ·split at h
  ·rename_i y H1 hd
   cases h;obtain ⟨Pu1,s1,e1,d1⟩:=mO hs hd (.cons hr .nil);refine ⟨Pu1,H1,s1,e1,fun Γ2=>?_⟩;have hg:=d1.VL (Γ:=Γ2);cases hq:fy l x with
   |nil=>rw [hq] at hg;cases hg
   |cons a r=>
    rw [hq] at hg;cases hg with |cons c d=>cases d;exact c
  ·cases h
structure az (P:Program) (hint:Hint) (sh:cz) (it:aZ) (n:Nat):Prop where
 run:∀ {x:aL it.pa} {y:aL it.re} {Γ:bj} {Pu:Nat->Prop} {I:IH} {vs:List Value},it.F n x=some y->aE P hint sh Γ Pu H0 I->ux Pu I it.pa x vs->
  ∃ Pu1 I1 v,dQ P hint (ev P hint (cD hint) (n+it.D)) it.f vs I=some (.returned v,I1)/\(∀ Γ2,GR Γ2 Pu1 I1 (jM (fy it.re y)) v)/\I.n<=I1.n/\(∀ b,b<I.n->I1.get b=I.get b)/\(∀ b,I1.n<=b->I1.get b=none)/\
   (∀ b,Pu1 b->∃ cs et fz ex sd,I1.get b=some (.cells cs et fz ex sd))/\(∀ b,b<I.n->Pu1 b->Pu b)/\(∀ b,Pu b->Pu1 b)
theorem az.of {it:aZ} {n:Nat} {hk:(β:Type)->tG β} {sh:cz} (ho:∀ m,m<=n+it.D->rn P hint sh (hk (aL it.re)) m)
  (h:∀ x,AZ stx P sh hint (gv stx P sh hint (hk (aL it.re)) (n+it.D)) it.f (fy it.pa x) H0 (UO it.re)=it.F n x):az P hint sh it n where
 run:=fun {x y Γ Pu I vs} hF hs hd=>by
  have ok:=Pp (P:=P) (hint:=hint) (sh:=sh) (hk:=hk (aL it.re)) (n+it.D) ho;rw [←h x] at hF;obtain ⟨t,H1,Γ1,Pu1,v,I1,k1,k2,k3,k4,k5⟩:=qT ok hs hF (hd.VL (Γ:=Γ));obtain ⟨Pu2,H2,s2,e2,g2⟩:=Si k4 k1 k3;refine ⟨Pu2,I1,v,k2,g2,k5.n,fun b hb=>k5.cQ b hb (Vp b),k4.fresh,s2.pu,fun b hb hp=>?_,fun b hp=>e2.p b (k5.p b hp)⟩;rcases e2.pn b (Nat.lt_of_lt_of_le hb k5.n) hp with h1 |h1
  ·exact (k5.pn b hb h1).elim id fun h2=>absurd h2 (Vp b)
  ·exact absurd (k5.own b hb h1) (Vp b)
theorem P9 {s:Sh}:zu s=false->∀ {x:s.ty} {vs:List Value} {Γ1:bj} {Pu1:Nat->Prop} {I1:IH},bI Γ Pu I (s.dN x) vs->bI Γ1 Pu1 I1 (s.dN x) vs:=by
 induction s with
 |cy e ih=>intro h;cases h
 |cons a b iha ihb=>
  intro h x vs Γ1 Pu1 I1 he;simp only [zu,Bool.or_eq_false_iff] at h;simp only [Sh.dN] at he ⊢;obtain ⟨u,w,rfl,h1,h2⟩:=he.split;exact (iha h.1 h1).append (ihb h.2 h2)
 |int k=>intro _ x vs Γ1 Pu1 I1 he;cases he with |cons a b=>cases a;cases b;exact .cons (.int _ _) .nil
 |byte=>intro _ x vs Γ1 Pu1 I1 he;cases he with |cons a b=>cases a;cases b;exact .cons (.byte _) .nil
 |bool=>intro _ x vs Γ1 Pu1 I1 he;cases he with |cons a b=>cases a;cases b;exact .cons (.bool _) .nil
 |str=>intro _ x vs Γ1 Pu1 I1 he;cases he with |cons a b=>cases a;cases b;exact .cons (.str _) .nil
theorem Mc:∀ {l:List (Bool×Sh)} {x:aL l} {vs:List Value} {Γ1:bj} {Pu1:Nat->Prop} {I1:IH},l.any (fun p=>zu p.2)=false->bI Γ Pu I (fy l x) vs->bI Γ1 Pu1 I1 (fy l x) vs:=by
 intro l
 induction l with
 |nil=>intro x vs Γ1 Pu1 I1 _ h;cases h;exact .nil
 |cons p r ih=>
  intro x vs Γ1 Pu1 I1 hf h;obtain ⟨g,s⟩:=p;simp only [List.any_cons,Bool.or_eq_false_iff] at hf;simp only [fy] at h ⊢;cases h with |cons a b=>
  refine .cons ?_ (ih hf.2 b);cases g with
  |true=>cases a with |agg a=>exact .agg (P9 hf.1 a)
  |false=>
   simp only [zab] at a ⊢;cases s with
   |int k=>cases a;exact .int _ _
   |byte=>cases a;exact .byte _
   |bool=>cases a;exact .bool _
   |str=>cases a;exact .str _
   |cy e=>cases hf.1
   |cons s1 s2=>
    have:∀ {s:Sh} {x:s.ty},zu s=false->∃ t r,s.dN x=t::r/\∀ {v:Value} {Γ Γ1:bj} {Pu Pu1:Nat->Prop} {I I1:IH},GR Γ Pu I t v->GR Γ1 Pu1 I1 t v:=by
     intro s
     induction s with
     |int k=>intro x _;exact ⟨_,_,rfl,fun h=>by cases h;exact .int _ _⟩
     |byte=>intro x _;exact ⟨_,_,rfl,fun h=>by cases h;exact .byte _⟩
     |bool=>intro x _;exact ⟨_,_,rfl,fun h=>by cases h;exact .bool _⟩
     |str=>intro x _;exact ⟨_,_,rfl,fun h=>by cases h;exact .str _⟩
     |cy e _=>intro x h;cases h
     |cons a b iha ihb=>
      intro x h;simp only [zu,Bool.or_eq_false_iff] at h;obtain ⟨t,r,e,k⟩:=iha (x:=x.1) h.1;exact ⟨t,r++b.dN x.2,by simp only [Sh.dN,e];rfl,k⟩
    obtain ⟨t,r,e,k⟩:=this (s:= .cons s1 s2) (x:=x.1) hf.1;rw [e] at a ⊢;exact k a
theorem Is {l:List (Bool×Sh)} {x:aL l} {v:Value} {Γ1:bj} {Pu1:Nat->Prop} {I1:IH} (hf:l.any (fun p=>zu p.2)=false) (h:GR Γ Pu I (jM (fy l x)) v):GR Γ1 Pu1 I1 (jM (fy l x)) v:=by
 have key:=fun vs=>Mc (Γ:=Γ) (Pu:=Pu) (I:=I) (l:=l) (x:=x) (vs:=vs) (Γ1:=Γ1) (Pu1:=Pu1) (I1:=I1) hf
 cases hq:fy l x with
 |nil=>rw [hq] at h;cases h with |jD h=>cases h;exact .jD .nil
 |cons a r=>
  rw [hq] at h key;cases r with
  |nil=>
   have:=key [v] (.cons h .nil);cases this with |cons c d=>exact c
  |cons b r=>
   cases h with |jD h=>exact .jD (key _ h)
theorem az.aC {it:aZ} {n:Nat} (hok:∀ m,m+it.D=n->az P hint sh it m) {args:List TV} {args':List Value} {K:TV->GH->Option β} (h:it.aC β n args H K=some r) (hs:aE P hint sh Γ Pu H I) (ha:bI Γ Pu I args args'):
  iQ P hint sh K r Γ Pu H I (dQ P hint (ev P hint (cD hint) n) it.f args' I):=by
 unfold aZ.aC at h;replace h:=ae h;obtain ⟨hb,h⟩:=h;have hle:=aM hb;unfold aZ.body at h;split at h
 ·rename_i x H1 hd
  cases hF:it.F (n - it.D) x with
  |none=>rw [hF] at h;cases h
  |some y=>
   rw [hF] at h;simp only [zaa] at h;obtain ⟨Pu1,s1,e1,d1⟩:=mO hs hd ha;obtain ⟨Pu2,I2,v,r1,r2,r3,r4,r5,r6,r7,r8⟩:=(hok (n - it.D) (by omega)).run hF s1.inside d1;rw [show n - it.D+it.D=n by omega] at r1;cases hl:it.re.any (fun p=>zu p.2) with
   |true=>
    rw [hl] at h;obtain ⟨s2,e2⟩:=s1.outside r3 r4 r5 r6 r7;refine ⟨_,_,_,_,v,I2,h,r1,?_,s2,Ex.trans hs s1 e1 e2⟩;have hP:(fun b=>Pu1 b∨Pu2 b)=Pu2:=by funext b;exact propext ⟨fun h=>h.elim (r8 b) id,.inr⟩
    rw [hP];exact r2 _
   |false=>
    rw [hl] at h;obtain ⟨s2,e2⟩:=hs.outside (Pu1:=fun _=>False) r3 r4 r5 (fun b h=>h.elim) (fun b _ h=>h.elim);exact ⟨_,_,_,_,v,I2,h,r1,Is hl (r2 Γ),s2,e2⟩
 ·cases h
end
end Go.Gv
