/- Functions and loops that plain functions stand for: what is to be shown of each, and that it may be used. -/
import Derived.Test.YtdelfjdjenlaiaaGreatDoorGvLift
set_option linter.unusedSimpArgs false
set_option linter.unusedVariables false
namespace Go.Gv
open Go Go.Iv
abbrev ak:List (Bool×Sh)->Type
 | []=>Unit
 |(_,s)::r=>s.ty×ak r
noncomputable section
def fH:(l:List (Bool×Sh))->ak l->List TV
 | [],_=> []
 |(g,s)::r,x=>(bif g then .agg (s.de x.1) else (s.de x.1).headD .undef)::fH r x.2
def rB:(l:List (Bool×Sh))->List TV->GH->Option (ak l×GH)
 | [],[],H=>some ((),H)
 |(g,s)::r,t::ts,H=>bif (match t with
   | .agg _=>g
   |_=> !g) then
  match iF t.cells H with
  |some (cs,H)=>match s.jj cs with
   |some x=>match rB r ts H with
    |some (y,H)=>some ((x,y),H)
    |none=>none
   |none=>none
  |none=>none
  else none
 |_,_,_=>none
def jS:List TV->TV
 | [v]=>v
 |vs=> .jg vs
def OH (l:List (Bool×Sh)) (v:TV) (H:GH):Option (ak l):=
 match v with
 | .jg vs=>bif Nat.beq l.length 1 then none else match rB l vs H with
  |some (x,_)=>some x
  |none=>none
 |v=>match rB l [v] H with
  |some (x,_)=>some x
  |none=>none
def zu:Sh->Bool
 | .aJ _=>true
 | .cons a b=>zu a ||zu b
 |_=>false
def H0:GH:=⟨.nil,64,0⟩
structure bu where
 f:FuncId
 pa:List (Bool×Sh)
 re:List (Bool×Sh)
 D:Nat
 F:Nat->ak pa->Option (ak re)
def bu.body (β:Type) (it:bu) (M:Nat) (args:List TV) (H:GH) (K:TV->GH->Option β):Option β:=
 match rB it.pa args H with
 |some (x,H')=>(it.F M x).bind fun y=>K (jS (fH it.re y)) (bif it.re.any (fun p=>zu p.2) then H' else H)
 |none=>none
def bu.aK (β:Type) (it:bu):Nat->List TV->GH->(TV->GH->Option β)->Option β:=fun N args H K=>
 bif Nat.ble it.D N then it.body β (N - it.D) args H K else none
def PA (t:TypeId) (e:Int):Value:= .iface t (.agg ⟨[.int .i64 e]⟩)
def K5 (t:TypeId):Value->Option Int
 | .iface t' (.agg ⟨[.int .i64 e]⟩)=>bif Nat.beq t' t then some e else none
 |_=>none
inductive XK where
 |exit (id:Nat)
 |ret
 |I8 (t:TypeId)
def XK.env:XK->X->GE->Option GE
 | .exit id,.exit j,E=>bif Nat.beq id j then some E else none
 | .ret,.ret,E=>some E
 | .I8 t,.panic v,_=>match K5 t v with
  |some e=>some ⟨.c 0 (.int .i64 e) .e,.e⟩
  |none=>none
 |_,_,_=>none
def XK.go {β:Type} (k:XK) (E:GE) (H:GH) (K:X->GE->GH->Option β):Option β:=match k with
 | .exit id=>K (.exit id) E H
 | .ret=>K .ret E H
 | .I8 t=>match eX E.loc 0 with
  | .int .i64 e=>K (.panic (PA t e)) ⟨.e,.e⟩ H
  |_=>none
abbrev vE:List (XK×Tm)->Type
 | []=>Empty
 | [(_,T)]=>T.ty
 |(_,T)::r=>T.ty⊕vE r
def Kz (k:XK) (T:Tm) (x:X) (E:GE) (H:GH):Option T.ty:=match k.env x E with
 |some E=>T.take E H
 |none=>none
def JO:(l:List (XK×Tm))->X->GE->GH->Option (vE l)
 | [],_,_,_=>none
 | [(k,T)],x,E,H=>Kz k T x E H
 |(k,T)::q::r,x,E,H=>match Kz k T x E H with
  |some y=>some (.inl y)
  |none=>match JO (q::r) x E H with
   |some y=>some (.inr y)
   |none=>none
def T5 {β:Type}:(l:List (XK×Tm))->vE l->(X->GE->GH->Option β)->Option β
 | [],_,_=>none
 | [(k,T)],y,K=>k.go (T.E y) (T.H y) K
 |(k,T)::q::r,y,K=>match y with
  | .inl y=>k.go (T.E y) (T.H y) K
  | .inr y=>T5 (q::r) y K
def eH:List Nat->GH->GH
 | [],H=>H
 |k::r,H=>eH r (H.del k)
def GH.back (H1:GH) (k:Nat) (p:Option (Nat×bL)):GH:=match p with
 |some p=>⟨Tr.qU (some p) (Nat.succ k) H1.t k,H1.n,H1.ck⟩
 |none=>H1
def yg:List Nat->GH->GH->GH
 | [],_,H1=>H1
 |k::r,H,H1=>(yg r (H.del k) H1).back k (H.t.lA k)
def GH.old (H1:GH) (k:Nat) (H:GH):GH:=match H.t.lA k,H1.t.lA k with
 |some (s,.cells et cs true),some (_,.cells _ _ true)=>H1.back k (some (s,.cells et cs true))
 |_,_=>H1
def UW:List Nat->GH->GH->GH
 | [],_,H1=>H1
 |k::r,H,H1=>(UW r H H1).old k H
def Yr (x:X) (rd:List Nat) (H H1:GH):GH:=match x with
 | .panic _=>H1
 |_=>UW rd H H1
def L8 (n0 ck:Nat) (H:GH):List Nat->Bool
 | []=>true
 |k::r=>(Nat.blt k n0 &&match H.t.lA k with
  |some (s,.cells _ _ true)=>Nat.beq s ck
  |_=>false) &&L8 n0 ck H r
structure aM where
 bO:Nat
 iO:Nat
 ro:Option Nat
 T:Tm
 ex:List (XK×Tm)
 D:Nat
 L:Nat->T.ty->Option (vE ex)
 fr:List Nat
 rd:List Nat
def aM.aK (β:Type) (it:aM):Nat->GE->GH->(X->GE->GH->Option β)->Option (Option β):=fun N E H K=>
 bif Nat.ble it.D N &&Nat.beq H.n it.T.n0 &&Nat.ble H.ck it.T.ck then
  match it.T.take E (eH it.fr H) with
  |some x=>some ((it.L (N - it.D) x).bind fun y=>T5 it.ex y fun x E H1=>K x E (yg it.fr H (Yr x it.rd (eH it.fr H) H1)))
  |none=>none
 else none
def aM.Kb (it:aM) (m:Nat):X->GE->GH->Option (vE it.ex):=fun x E H=>match x with
 | .normal=>bif L8 it.T.n0 it.T.ck H it.rd then (match it.T.take E H with
  |some s=>it.L m s
  |none=>none) else none
 | .panic v=>JO it.ex (.panic v) E H
 |x=>bif L8 it.T.n0 it.T.ck H it.rd then JO it.ex x E H else none
structure an where
 fns:List bu
 loops:List aM
def xp:Option Nat->Option Nat->Bool
 |none,none=>true
 |some a,some b=>Nat.beq a b
 |_,_=>false
def findF (f:FuncId):List bu->Option bu
 | []=>none
 |it::r=>bif Nat.beq it.f f then some it else findF f r
def U4 (bO iO:Nat) (ro:Option Nat):List aM->Option aM
 | []=>none
 |it::r=>bif Nat.beq it.bO bO &&Nat.beq it.iO iO &&xp it.ro ro then some it else U4 bO iO ro r
def NC (β:Type) (bO iO:Nat) (ro:Option Nat):List aM->Nat->GE->GH->(X->GE->GH->Option β)->Option (Option β)
 | [],_,_,_,_=>none
 |it::r,N,E,H,K=>bif Nat.beq it.bO bO &&Nat.beq it.iO iO &&xp it.ro ro then match it.aK β N E H K with
   |some x=>some x
   |none=>NC β bO iO ro r N E H K
  else NC β bO iO ro r N E H K
def an.hk (k:an) (β:Type):tu β where
 call:=fun f=>match findF f k.fns with
  |some it=>some (it.aK β)
  |none=>none
 loop:=fun bO iO ro=>match U4 bO iO ro k.loops with
  |some _=>some (NC β bO iO ro k.loops)
  |none=>none
end
section
variable {P:Program} {hint:Hint} {sh:cA} {O:Nat->Prop} {Γ Γ1 Γ':bc} {Pu Pu1:Nat->Prop} {H H1:GH} {I I1:IH} {β:Type} {r:β}
theorem aw.outside (hs:aw P hint sh Γ Pu H I) (hn:I.n<=I1.n) (hk:∀ b,b<I.n->I1.get b=I.get b) (hf:∀ b,I1.n<=b->I1.get b=none) (hp:∀ b,Pu1 b->∃ cs et fz ex sd,I1.get b=some (.cells cs et fz ex sd)) (hq:∀ b,b<I.n->Pu1 b->Pu b):
  aw P hint sh Γ (fun b=>Pu b∨Pu1 b) H I1/\Ex (bx Γ H I) Γ Pu H I Γ (fun b=>Pu b∨Pu1 b) H I1:=by
 have kk:cH Γ Pu I Γ (fun b=>Pu b∨Pu1 b) I1:=⟨fun _ _ h=>h,fun _ h=> .inl h,fun b hb=>hk b (hs.jh hb)⟩;have hpos:∀ id o l b x,H.get id=some o->o.dh=true->Γ id=some l->l.pos=some (b,x)->I1.get b=I.get b:=fun id o l b x hg hm hl hp=>hk b (hs.cq (.pos hg hm hl hp))
 refine ⟨⟨?_,hs.NX hpos,?_,hs.bj,hf,?_,Nat.le_trans hs.ro hn,hs.gn,hs.cE,hs.st,hs.oE kk.p kk.i⟩,⟨fun _ _ h=>h,zai _,hn,fun _ h=> .inl h,fun b hb _=>hk b hb,fun b _ h=>pF hpos h,?_,zai _,fun _ _=> .inr (.inl rfl),?_⟩⟩
 ·intro id o hg
  obtain ⟨l,hl,_⟩:=hs.obj id o hg;exact ⟨l,hl,hs.dR kk hg hl fun hm b hat=>hk b (hs.cq ⟨id,o,l,hg,hm,hl,hat⟩)⟩
 ·intro b hb hpu
  have hb:=pF hpos hb;rcases hpu with h |h
  ·exact hs.sep b hb h
  ·exact hs.sep b hb (hq b (hs.cq hb) h)
 ·intro b hb
  rcases hb with h |h
  ·obtain ⟨cs,et,fz,ex,sd,hg⟩:=hs.pu b h
   exact ⟨cs,et,fz,ex,sd,(hk b (hs.lt hg)).trans hg⟩
  ·exact hp b h
 ·intro b hb h
  rcases h with h |h
  ·exact .inl h
  ·exact .inl (hq b hb h)
 ·intro id l b x s h1 _ hl hp'
  exact hs.eC kk h1 hl hp' fun o hg hm=>hpos id o l b x hg hm hl hp'
theorem ot (id:Nat):H0.get id=none:=rfl
theorem aw.inside (hs:aw P hint sh Γ Pu H I):aw P hint sh (fun g=>if g<bU then Γ g else none) Pu H0 I where
 obj:=fun id o h=>by rw [ot] at h;cases h
 inj:=fun id id' o o' l l' b h=>by rw [ot] at h;cases h
 sep:=fun b ⟨id,o,l,h,_⟩=>by rw [ot] at h;cases h
 bj:=fun id l h=>by
  split at h
  ·rename_i hlt
   have:bU=32:=rfl
   show id<64
   omega
  ·cases h
 fresh:=hs.fresh
 pu:=hs.pu
 ro:=hs.ro
 gn:=by decide
 cE:=fun g hg=>by
  obtain ⟨l,h1,h2⟩:=hs.cE g hg;exact ⟨l,by rw [if_pos hg];exact h1,h2⟩
 st:=fun id s h=>by cases h
 HX:=hs.HX
theorem Vy (b:Nat):¬ bx Γ H0 I b:=fun ⟨id,o,l,h,_⟩=>by rw [ot] at h;cases h
def ua (Pu:Nat->Prop) (I:IH):(l:List (Bool×Sh))->ak l->List Value->Prop
 | [],_,vs=>vs= []
 |(g,s)::r,x,vs=>∃ v w,vs=v::w/\sO Pu I g s x.1 v/\ua Pu I r x.2 w
theorem ua.WT:∀ {l:List (Bool×Sh)} {x:ak l} {vs:List Value},ua Pu I l x vs->bK Γ Pu I (fH l x) vs:=by
 intro l
 induction l with
 |nil=>intro x vs h;unfold ua at h;subst h;exact .nil
 |cons p r ih=>
  intro x vs h;obtain ⟨g,s⟩:=p;obtain ⟨v,w,rfl,h1,h2⟩:=h;exact .cons h1.gr (ih h2)
theorem ua.mono (hp:∀ b,Pu b->Pu1 b) (hi:∀ b,Pu b->I1.get b=I.get b):∀ {l:List (Bool×Sh)} {x:ak l} {vs:List Value},ua Pu I l x vs->ua Pu1 I1 l x vs:=by
 intro l
 induction l with
 |nil=>intro x vs h;exact h
 |cons p r ih=>
  intro x vs h;obtain ⟨g,s⟩:=p;obtain ⟨v,w,rfl,h1,h2⟩:=h;exact ⟨v,w,rfl,h1.mono hp hi,ih h2⟩
theorem nc:∀ {l:List (Bool×Sh)} {ts:List TV} {vs:List Value} {x:ak l} {H H1:GH} {Pu:Nat->Prop},aw P hint sh Γ Pu H I->rB l ts H=some (x,H1)->bK Γ Pu I ts vs->
  ∃ Pu1,aw P hint sh Γ Pu1 H1 I/\Ex (bx Γ H I) Γ Pu H I Γ Pu1 H1 I/\ua Pu1 I l x vs:=by
 intro l
 induction l with
 |nil=>
  intro ts vs x H H1 Pu hs h hr;cases ts with
  |nil=>unfold rB at h;cases h;cases hr;exact ⟨Pu,hs,Ex.refl hs,rfl⟩
  |cons=>cases h
 |cons p r ih=>
  intro ts vs x H H1 Pu hs h hr;obtain ⟨g,s⟩:=p;cases hr with
  |nil=>cases h
  |cons a b=>
   rename_i t ts v vs;simp only [rB] at h;replace h:=ae h;obtain ⟨hg,h⟩:=h;split at h
   ·rename_i cs H2 hp
    split at h
    ·rename_i y hy
     split at h
     ·rename_i z H3 hz
      cases h;have hone:=A3 hp;have hc:=a.cells hone;obtain ⟨Pu1,s1,e1,r1⟩:=gB hs hp hc;obtain ⟨Pu2,s2,e2,r2⟩:=ih s1 hz (b.mono (e1.cJ hs));have k2:=e2.cJ s1;refine ⟨Pu2,s2,Ex.trans hs s1 e1 e2,v,vs,rfl,sO.mono k2.p k2.i ⟨Sh.eg hy r1,fun hgt=>?_,fun hgf=>?_⟩,r2⟩
      ·subst hgt
       cases t with
       |agg l=>cases a with |agg _=>exact ⟨_,rfl⟩
       |_=>cases hg
      ·subst hgf
       have ho:t.one=true:=by
        cases t with
        |agg l=>cases hg
        |_=>simpa [TV.cells] using hone
       exact kh (a.one ho)
     ·cases h
    ·cases h
   ·cases h
theorem tR:∀ {l:List (Bool×Sh)} {x:ak l},(fH l x).length=l.length:=by
 intro l
 induction l with
 |nil=>intro x;rfl
 |cons p r ih=>intro x;obtain ⟨g,s⟩:=p;simp [fH,ih]
theorem Ua {l:List (Bool×Sh)} {t:TV} {v:Value} {x:ak l} (hs:aw P hint sh Γ Pu H I) (h:OH l t H=some x) (hr:GR Γ Pu I t v):
  ∃ Pu1 H1,aw P hint sh Γ Pu1 H1 I/\Ex (bx Γ H I) Γ Pu H I Γ Pu1 H1 I/\∀ Γ2,GR Γ2 Pu1 I (jS (fH l x)) v:=by
 unfold OH at h;split at h
 ·rename_i vs
  cases hr with |jg hr=>
  cases hb:Nat.beq l.length 1 with
  |true=>rw [hb] at h;cases h
  |false=>
   rw [hb] at h;simp only [zab] at h;split at h
   ·rename_i y H1 hd
    cases h;obtain ⟨Pu1,s1,e1,d1⟩:=nc hs hd hr;refine ⟨Pu1,H1,s1,e1,fun Γ2=>?_⟩;have hl:=tR (l:=l) (x:=x);have hg:=d1.WT (Γ:=Γ2);have:jS (fH l x)= .jg (fH l x):=by
     cases hq:fH l x with
     |nil=>rfl
     |cons a r=>
      cases r with
      |nil=>rw [hq] at hl;rw [←hl] at hb;cases hb
      |cons b r=>rfl
    rw [this];exact .jg hg
   ·cases h
 ·split at h
  ·rename_i y H1 hd
   cases h;obtain ⟨Pu1,s1,e1,d1⟩:=nc hs hd (.cons hr .nil);refine ⟨Pu1,H1,s1,e1,fun Γ2=>?_⟩;have hg:=d1.WT (Γ:=Γ2);cases hq:fH l x with
   |nil=>rw [hq] at hg;cases hg
   |cons a r=>
    rw [hq] at hg;cases hg with |cons c d=>cases d;exact c
  ·cases h
theorem Hy {l:List (Bool×Sh)} {w:Value} {x:ak l×GH} (h:rB l [.H5 w] H=some x):False:=by
 cases l with
 |nil=>cases h
 |cons p r=>
  obtain ⟨g,s⟩:=p;simp only [rB] at h;replace h:=ae h;cases h.2
theorem RJ {l:List (Bool×Sh)} {w:Value} {x:ak l} (h:OH l (.H5 w) H=some x):False:=by
 unfold OH at h;split at h
 ·cases ‹TV.H5 w=TV.jg _›
 ·split at h
  ·rename_i hd;exact Hy hd
  ·cases h
structure aI (P:Program) (hint:Hint) (sh:cA) (it:bu) (n:Nat):Prop where
 run:∀ {x:ak it.pa} {y:ak it.re} {Γ:bc} {Pu:Nat->Prop} {I:IH} {vs:List Value},it.F n x=some y->aw P hint sh Γ Pu H0 I->ua Pu I it.pa x vs->
  ∃ Pu1 I1 v,cb P hint (ev P hint (cP hint) (n+it.D)) it.f vs I=some (.returned v,I1)/\(∀ Γ2,GR Γ2 Pu1 I1 (jS (fH it.re y)) v)/\I.n<=I1.n/\(∀ b,b<I.n->I1.get b=I.get b)/\(∀ b,I1.n<=b->I1.get b=none)/\
   (∀ b,Pu1 b->∃ cs et fz ex sd,I1.get b=some (.cells cs et fz ex sd))/\(∀ b,b<I.n->Pu1 b->Pu b)/\(∀ b,Pu b->Pu1 b)
theorem aI.of {it:bu} {n:Nat} {hk:(β:Type)->tu β} {sh:cA} (ho:∀ m,m<=n+it.D->sq P hint sh (hk (ak it.re)) m)
  (h:∀ x,Bu stx P sh hint (gv stx P sh hint (hk (ak it.re)) (n+it.D)) it.f (fH it.pa x) H0 (OH it.re)=it.F n x):aI P hint sh it n where
 run:=fun {x y Γ Pu I vs} hF hs hd=>by
  have ok:=Ou (P:=P) (hint:=hint) (sh:=sh) (hk:=hk (ak it.re)) (n+it.D) ho;rw [←h x] at hF;rcases pq ok hs hF (hd.WT (Γ:=Γ)) with ⟨t,H1,Γ1,Pu1,v,I1,k1,k2,k3,k4,k5⟩ |⟨w,H1,_,_,_,k1,_⟩
  case inr=>exact (RJ k1).elim
  obtain ⟨Pu2,H2,s2,e2,g2⟩:=Ua k4 k1 k3;refine ⟨Pu2,I1,v,k2,g2,k5.n,fun b hb=>k5.cI b hb (Vy b),k4.fresh,s2.pu,fun b hb hp=>?_,fun b hp=>e2.p b (k5.p b hp)⟩;rcases e2.pn b (Nat.lt_of_lt_of_le hb k5.n) hp with h1 |h1
  ·exact (k5.pn b hb h1).elim id fun h2=>absurd h2 (Vy b)
  ·exact absurd (k5.own b hb h1) (Vy b)
theorem Sx {s:Sh}:zu s=false->∀ {x:s.ty} {vs:List Value} {Γ1:bc} {Pu1:Nat->Prop} {I1:IH},bK Γ Pu I (s.de x) vs->bK Γ1 Pu1 I1 (s.de x) vs:=by
 induction s with
 |aJ e ih=>intro h;cases h
 |cons a b iha ihb=>
  intro h x vs Γ1 Pu1 I1 he;simp only [zu,Bool.or_eq_false_iff] at h;simp only [Sh.de] at he ⊢;obtain ⟨u,w,rfl,h1,h2⟩:=he.split;exact (iha h.1 h1).append (ihb h.2 h2)
 |int k=>intro _ x vs Γ1 Pu1 I1 he;cases he with |cons a b=>cases a;cases b;exact .cons (.int _ _) .nil
 |byte=>intro _ x vs Γ1 Pu1 I1 he;cases he with |cons a b=>cases a;cases b;exact .cons (.byte _) .nil
 |bool=>intro _ x vs Γ1 Pu1 I1 he;cases he with |cons a b=>cases a;cases b;exact .cons (.bool _) .nil
 |str=>intro _ x vs Γ1 Pu1 I1 he;cases he with |cons a b=>cases a;cases b;exact .cons (.str _) .nil
theorem L9:∀ {l:List (Bool×Sh)} {x:ak l} {vs:List Value} {Γ1:bc} {Pu1:Nat->Prop} {I1:IH},l.any (fun p=>zu p.2)=false->bK Γ Pu I (fH l x) vs->bK Γ1 Pu1 I1 (fH l x) vs:=by
 intro l
 induction l with
 |nil=>intro x vs Γ1 Pu1 I1 _ h;cases h;exact .nil
 |cons p r ih=>
  intro x vs Γ1 Pu1 I1 hf h;obtain ⟨g,s⟩:=p;simp only [List.any_cons,Bool.or_eq_false_iff] at hf;simp only [fH] at h ⊢;cases h with |cons a b=>
  refine .cons ?_ (ih hf.2 b);cases g with
  |true=>cases a with |agg a=>exact .agg (Sx hf.1 a)
  |false=>
   simp only [zab] at a ⊢;cases s with
   |int k=>cases a;exact .int _ _
   |byte=>cases a;exact .byte _
   |bool=>cases a;exact .bool _
   |str=>cases a;exact .str _
   |aJ e=>cases hf.1
   |cons s1 s2=>
    have:∀ {s:Sh} {x:s.ty},zu s=false->∃ t r,s.de x=t::r/\∀ {v:Value} {Γ Γ1:bc} {Pu Pu1:Nat->Prop} {I I1:IH},GR Γ Pu I t v->GR Γ1 Pu1 I1 t v:=by
     intro s
     induction s with
     |int k=>intro x _;exact ⟨_,_,rfl,fun h=>by cases h;exact .int _ _⟩
     |byte=>intro x _;exact ⟨_,_,rfl,fun h=>by cases h;exact .byte _⟩
     |bool=>intro x _;exact ⟨_,_,rfl,fun h=>by cases h;exact .bool _⟩
     |str=>intro x _;exact ⟨_,_,rfl,fun h=>by cases h;exact .str _⟩
     |aJ e _=>intro x h;cases h
     |cons a b iha ihb=>
      intro x h;simp only [zu,Bool.or_eq_false_iff] at h;obtain ⟨t,r,e,k⟩:=iha (x:=x.1) h.1;exact ⟨t,r++b.de x.2,by simp only [Sh.de,e];rfl,k⟩
    obtain ⟨t,r,e,k⟩:=this (s:= .cons s1 s2) (x:=x.1) hf.1;rw [e] at a ⊢;exact k a
theorem Jc {l:List (Bool×Sh)} {x:ak l} {v:Value} {Γ1:bc} {Pu1:Nat->Prop} {I1:IH} (hf:l.any (fun p=>zu p.2)=false) (h:GR Γ Pu I (jS (fH l x)) v):GR Γ1 Pu1 I1 (jS (fH l x)) v:=by
 have key:=fun vs=>L9 (Γ:=Γ) (Pu:=Pu) (I:=I) (l:=l) (x:=x) (vs:=vs) (Γ1:=Γ1) (Pu1:=Pu1) (I1:=I1) hf
 cases hq:fH l x with
 |nil=>rw [hq] at h;cases h with |jg h=>cases h;exact .jg .nil
 |cons a r=>
  rw [hq] at h key;cases r with
  |nil=>
   have:=key [v] (.cons h .nil);cases this with |cons c d=>exact c
  |cons b r=>
   cases h with |jg h=>exact .jg (key _ h)
theorem aI.aK {it:bu} {n:Nat} (hok:∀ m,m+it.D=n->aI P hint sh it m) {args:List TV} {args':List Value} {K:TV->GH->Option β} (h:it.aK β n args H K=some r) (hs:aw P hint sh Γ Pu H I) (ha:bK Γ Pu I args args'):
  eQ P hint sh K r Γ Pu H I (cb P hint (ev P hint (cP hint) n) it.f args' I):=by
 unfold bu.aK at h;replace h:=ae h;obtain ⟨hb,h⟩:=h;have hle:=aB hb;unfold bu.body at h;split at h
 ·rename_i x H1 hd
  cases hF:it.F (n - it.D) x with
  |none=>rw [hF] at h;cases h
  |some y=>
   rw [hF] at h;simp only [zaa] at h;obtain ⟨Pu1,s1,e1,d1⟩:=nc hs hd ha;obtain ⟨Pu2,I2,v,r1,r2,r3,r4,r5,r6,r7,r8⟩:=(hok (n - it.D) (by omega)).run hF s1.inside d1;rw [show n - it.D+it.D=n by omega] at r1;cases hl:it.re.any (fun p=>zu p.2) with
   |true=>
    rw [hl] at h;obtain ⟨s2,e2⟩:=s1.outside r3 r4 r5 r6 r7;refine .inl ⟨_,_,_,_,v,I2,h,r1,?_,s2,Ex.trans hs s1 e1 e2⟩;have hP:(fun b=>Pu1 b∨Pu2 b)=Pu2:=by funext b;exact propext ⟨fun h=>h.elim (r8 b) id,.inr⟩
    rw [hP];exact r2 _
   |false=>
    rw [hl] at h;obtain ⟨s2,e2⟩:=hs.outside (Pu1:=fun _=>False) r3 r4 r5 (fun b h=>h.elim) (fun b _ h=>h.elim);exact .inl ⟨_,_,_,_,v,I2,h,r1,Jc hl (r2 Γ),s2,e2⟩
 ·cases h
end
end Go.Gv
