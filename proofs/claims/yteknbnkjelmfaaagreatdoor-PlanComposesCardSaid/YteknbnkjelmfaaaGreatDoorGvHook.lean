/- Functions and loops that plain functions stand for: what is to be shown of each, and that it may be used. -/
import Derived.Test.YteknbnkjelmfaaaGreatDoorGvLift
set_option linter.unusedSimpArgs false
set_option linter.unusedVariables false
namespace Go.Gv
open Go Go.Iv
abbrev aw:List (Bool×Sh)->Type
 | []=>Unit
 |(_,s)::r=>s.ty×aw r
noncomputable section
def dC:(l:List (Bool×Sh))->aw l->List TV
 | [],_=> []
 |(g,s)::r,x=>(bif g then .agg (s.cV x.1) else (s.cV x.1).headD .undef)::dC r x.2
def nD:(l:List (Bool×Sh))->List TV->GH->Option (aw l×GH)
 | [],[],H=>some ((),H)
 |(g,s)::r,t::ts,H=>bif (match t with
   | .agg _=>g
   |_=> !g) then
  match ik t.cells H with
  |some (cs,H)=>match s.jE cs with
   |some x=>match nD r ts H with
    |some (y,H)=>some ((x,y),H)
    |none=>none
   |none=>none
  |none=>none
  else none
 |_,_,_=>none
def jk:List TV->TV
 | [v]=>v
 |vs=> .ja vs
def EL (l:List (Bool×Sh)) (v:TV) (H:GH):Option (aw l):=
 match v with
 | .ja vs=>bif Nat.beq l.length 1 then none else match nD l vs H with
  |some (x,_)=>some x
  |none=>none
 |v=>match nD l [v] H with
  |some (x,_)=>some x
  |none=>none
def wm:Sh->Bool
 | .bH _=>true
 | .cons a b=>wm a ||wm b
 |_=>false
def H0:GH:=⟨.nil,64,0⟩
structure fH where
 f:FuncId
 pa:List (Bool×Sh)
 re:List (Bool×Sh)
 D:Nat
 F:Nat->aw pa->Option (aw re)
def fH.body (Z:Type) (it:fH) (M:Nat) (args:List TV) (H:GH) (K:TV->GH->Option Z):Option Z:=
 match nD it.pa args H with
 |some (x,H')=>(it.F M x).bind fun y=>K (jk (dC it.re y)) (bif it.re.any (fun p=>wm p.2) then H' else H)
 |none=>none
def fH.eR (Z:Type) (it:fH):Nat->List TV->GH->(TV->GH->Option Z)->Option Z:=fun N args H K=>
 bif Nat.ble it.D N then it.body Z (N - it.D) args H K else none
def LL (t:TypeId) (e:Int):Value:= .iface t (.agg ⟨[.int .i64 e]⟩)
def Gw (t:TypeId):Value->Option Int
 | .iface t' (.agg ⟨[.int .i64 e]⟩)=>bif Nat.beq t' t then some e else none
 |_=>none
inductive XK where
 |exit (id:Nat)
 |ret
 |Ka (t:TypeId)
def XK.env:XK->X->GE->Option GE
 | .exit id,.exit j,E=>bif Nat.beq id j then some E else none
 | .ret,.ret,E=>some E
 | .Ka t,.panic v,_=>match Gw t v with
  |some e=>some ⟨.c 0 (.int .i64 e) .e,.e⟩
  |none=>none
 |_,_,_=>none
def XK.go {Z:Type} (k:XK) (E:GE) (H:GH) (K:X->GE->GH->Option Z):Option Z:=match k with
 | .exit id=>K (.exit id) E H
 | .ret=>K .ret E H
 | .Ka t=>match eT E.loc 0 with
  | .int .i64 e=>K (.panic (LL t e)) ⟨.e,.e⟩ H
  |_=>none
abbrev qK:List (XK×Tm)->Type
 | []=>Empty
 | [(_,T)]=>T.ty
 |(_,T)::r=>T.ty⊕qK r
def GM (k:XK) (T:Tm) (x:X) (E:GE) (H:GH):Option T.ty:=match k.env x E with
 |some E=>T.take E H
 |none=>none
def FM:(l:List (XK×Tm))->X->GE->GH->Option (qK l)
 | [],_,_,_=>none
 | [(k,T)],x,E,H=>GM k T x E H
 |(k,T)::q::r,x,E,H=>match GM k T x E H with
  |some y=>some (.inl y)
  |none=>match FM (q::r) x E H with
   |some y=>some (.inr y)
   |none=>none
def OS {Z:Type}:(l:List (XK×Tm))->qK l->(X->GE->GH->Option Z)->Option Z
 | [],_,_=>none
 | [(k,T)],y,K=>k.go (T.E y) (T.H y) K
 |(k,T)::q::r,y,K=>match y with
  | .inl y=>k.go (T.E y) (T.H y) K
  | .inr y=>OS (q::r) y K
def eS:List Nat->GH->GH
 | [],H=>H
 |k::r,H=>eS r (H.del k)
def GH.back (H1:GH) (k:Nat) (p:Option (Nat×bu)):GH:=match p with
 |some p=>⟨Tr.pR (some p) (Nat.succ k) H1.t k,H1.n,H1.ck⟩
 |none=>H1
def uH:List Nat->GH->GH->GH
 | [],_,H1=>H1
 |k::r,H,H1=>(uH r (H.del k) H1).back k (H.t.k9 k)
def GH.old (H1:GH) (k:Nat) (H:GH):GH:=match H.t.k9 k,H1.t.k9 k with
 |some (s,.cells et cs true),some (_,.cells _ _ true)=>H1.back k (some (s,.cells et cs true))
 |_,_=>H1
def Rb:List Nat->GH->GH->GH
 | [],_,H1=>H1
 |k::r,H,H1=>(Rb r H H1).old k H
def Un (x:X) (rd:List Nat) (H H1:GH):GH:=match x with
 | .panic _=>H1
 |_=>Rb rd H H1
def JZ (n0 ck:Nat) (H:GH):List Nat->Bool
 | []=>true
 |k::r=>(Nat.blt k n0 &&match H.t.k9 k with
  |some (s,.cells _ _ true)=>Nat.beq s ck
  |_=>false) &&JZ n0 ck H r
structure bV where
 bx:Nat
 gR:Nat
 ro:Option Nat
 T:Tm
 ex:List (XK×Tm)
 D:Nat
 L:Nat->T.ty->Option (qK ex)
 fr:List Nat
 rd:List Nat
def bV.eR (Z:Type) (it:bV):Nat->GE->GH->(X->GE->GH->Option Z)->Option (Option Z):=fun N E H K=>
 bif Nat.ble it.D N &&Nat.beq H.n it.T.n0 &&Nat.ble H.ck it.T.ck then
  match it.T.take E (eS it.fr H) with
  |some x=>some ((it.L (N - it.D) x).bind fun y=>OS it.ex y fun x E H1=>K x E (uH it.fr H (Un x it.rd (eS it.fr H) H1)))
  |none=>none
 else none
def bV.Kb (it:bV) (m:Nat):X->GE->GH->Option (qK it.ex):=fun x E H=>match x with
 | .normal=>bif JZ it.T.n0 it.T.ck H it.rd then (match it.T.take E H with
  |some s=>it.L m s
  |none=>none) else none
 | .panic v=>FM it.ex (.panic v) E H
 |x=>bif JZ it.T.n0 it.T.ck H it.rd then FM it.ex x E H else none
structure dq where
 fns:List fH
 loops:List bV
def ve:Option Nat->Option Nat->Bool
 |none,none=>true
 |some a,some b=>Nat.beq a b
 |_,_=>false
def findF (f:FuncId):List fH->Option fH
 | []=>none
 |it::r=>bif Nat.beq it.f f then some it else findF f r
def Q6 (bx gR:Nat) (ro:Option Nat):List bV->Option bV
 | []=>none
 |it::r=>bif Nat.beq it.bx bx &&Nat.beq it.gR gR &&ve it.ro ro then some it else Q6 bx gR ro r
def IA (Z:Type) (bx gR:Nat) (ro:Option Nat):List bV->Nat->GE->GH->(X->GE->GH->Option Z)->Option (Option Z)
 | [],_,_,_,_=>none
 |it::r,N,E,H,K=>bif Nat.beq it.bx bx &&Nat.beq it.gR gR &&ve it.ro ro then match it.eR Z N E H K with
   |some x=>some x
   |none=>IA Z bx gR ro r N E H K
  else IA Z bx gR ro r N E H K
def dq.hk (k:dq) (Z:Type):rW Z where
 call:=fun f=>match findF f k.fns with
  |some it=>some (it.eR Z)
  |none=>none
 loop:=fun bx gR ro=>match Q6 bx gR ro k.loops with
  |some _=>some (IA Z bx gR ro k.loops)
  |none=>none
end
section
variable {P:Program} {hint:Hint} {sh:bU} {O:Nat->Prop} {Γ Γ1 Γ':aN} {Pu Pu1:Nat->Prop} {H H1:GH} {I I1:IH} {Z:Type} {r:Z}
theorem au.outside (hs:au P hint sh Γ Pu H I) (hn:I.n<=I1.n) (hk:∀ b,b<I.n->I1.get b=I.get b) (hf:∀ b,I1.n<=b->I1.get b=none) (hp:∀ b,Pu1 b->∃ cs et fz ex sd,I1.get b=some (.cells cs et fz ex sd)) (hq:∀ b,b<I.n->Pu1 b->Pu b):
  au P hint sh Γ (fun b=>Pu b\/Pu1 b) H I1/\Ex (bk Γ H I) Γ Pu H I Γ (fun b=>Pu b\/Pu1 b) H I1:=by
 have kk:cp Γ Pu I Γ (fun b=>Pu b\/Pu1 b) I1:=⟨fun _ _ h=>h,fun _ h=> .inl h,fun b hb=>hk b (hs.iT hb)⟩;have hpos:∀ id o l b x,H.get id=some o->o.cY=true->Γ id=some l->l.pos=some (b,x)->I1.get b=I.get b:=fun id o l b x hg hm hl hp=>hk b (hs.bJ (.pos hg hm hl hp))
 refine ⟨⟨?_,hs.HH hpos,?_,hs.aT,hf,?_,Nat.le_trans hs.ro hn,hs.gn,hs.cq,hs.st,hs.nK kk.p kk.i⟩,⟨fun _ _ h=>h,zal _,hn,fun _ h=> .inl h,fun b hb _=>hk b hb,fun b _ h=>pf hpos h,?_,zal _,fun _ _=> .inr (.inl rfl),?_⟩⟩
 .intro id o hg
  obtain ⟨l,hl,_⟩:=hs.obj id o hg;exact ⟨l,hl,hs.dF kk hg hl fun hm b hat=>hk b (hs.bJ ⟨id,o,l,hg,hm,hl,hat⟩)⟩
 .intro b hb hpu
  have hb:=pf hpos hb;rcases hpu with h |h
  .exact hs.sep b hb h
  .exact hs.sep b hb (hq b (hs.bJ hb) h)
 .intro b hb
  rcases hb with h |h
  .obtain ⟨cs,et,fz,ex,sd,hg⟩:=hs.pu b h
   exact ⟨cs,et,fz,ex,sd,(hk b (hs.lt hg)).trans hg⟩
  .exact hp b h
 .grind
 .intro id l b x s h1 _ hl hp'
  exact hs.ey kk h1 hl hp' fun o hg hm=>hpos id o l b x hg hm hl hp'
theorem nU (id:Nat):H0.get id=none:=rfl
theorem au.inside (hs:au P hint sh Γ Pu H I):au P hint sh (fun g=>if g<bI then Γ g else none) Pu H0 I where
 obj:=fun id o h=>by rw [nU] at h;cases h
 inj:=fun id id' o o' l l' b h=>by rw [nU] at h;cases h
 sep:=fun b ⟨id,o,l,h,_⟩=>by rw [nU] at h;cases h
 aT:=fun id l h=>by
  split at h
  .rename_i hlt
   have:bI=32:=rfl
   show id<64
   omega
  .cases h
 fresh:=hs.fresh
 pu:=hs.pu
 ro:=hs.ro
 gn:=by decide
 cq:=fun g hg=>by
  obtain ⟨l,h1,h2⟩:=hs.cq g hg
  grind
 st:=fun id s h=>by cases h
 FT:=hs.FT
theorem RY (b:Nat):¬ bk Γ H0 I b:=fun ⟨id,o,l,h,_⟩=>by rw [nU] at h;cases h
def sN (Pu:Nat->Prop) (I:IH):(l:List (Bool×Sh))->aw l->List Value->Prop
 | [],_,vs=>vs= []
 |(g,s)::r,x,vs=>∃ v w,vs=v::w/\sF Pu I g s x.1 v/\sN Pu I r x.2 w
theorem sN.QV:∀ {l:List (Bool×Sh)} {x:aw l} {vs:List Value},sN Pu I l x vs->br Γ Pu I (dC l x) vs:=by
 intro l
 induction l with
 |nil=>intro x vs h;unfold sN at h;subst h;exact .nil
 |cons p r ih=>
  intro x vs h;obtain ⟨g,s⟩:=p;obtain ⟨v,w,rfl,h1,h2⟩:=h;exact .cons h1.gr (ih h2)
theorem sN.mono (hp:∀ b,Pu b->Pu1 b) (hi:∀ b,Pu b->I1.get b=I.get b):∀ {l:List (Bool×Sh)} {x:aw l} {vs:List Value},sN Pu I l x vs->sN Pu1 I1 l x vs:=by
 intro l
 induction l with
 |nil=>intro x vs h;exact h
 |cons p r ih=>
  intro x vs h;obtain ⟨g,s⟩:=p;obtain ⟨v,w,rfl,h1,h2⟩:=h;exact ⟨v,w,rfl,h1.mono hp hi,ih h2⟩
theorem ji:∀ {l:List (Bool×Sh)} {ts:List TV} {vs:List Value} {x:aw l} {H H1:GH} {Pu:Nat->Prop},au P hint sh Γ Pu H I->nD l ts H=some (x,H1)->br Γ Pu I ts vs->
  ∃ Pu1,au P hint sh Γ Pu1 H1 I/\Ex (bk Γ H I) Γ Pu H I Γ Pu1 H1 I/\sN Pu1 I l x vs:=by
 intro l
 induction l with
 |nil=>
  intro ts vs x H H1 Pu hs h hr;cases ts with
  |nil=>unfold nD at h;cases h;cases hr;exact ⟨Pu,hs,Ex.refl hs,rfl⟩
  |cons=>cases h
 |cons p r ih=>
  intro ts vs x H H1 Pu hs h hr;obtain ⟨g,s⟩:=p;cases hr with
  |nil=>cases h
  |cons a b=>
   rename_i t ts v vs;simp only [nD] at h;replace h:=ad h;obtain ⟨hg,h⟩:=h;split at h
   .rename_i cs H2 hp
    split at h
    .rename_i y hy
     split at h
     .rename_i z H3 hz
      cases h;have hone:=xl hp;have hc:=a.cells hone;obtain ⟨Pu1,s1,e1,r1⟩:=iu hs hp hc;obtain ⟨Pu2,s2,e2,r2⟩:=ih s1 hz (b.mono (e1.cy hs));have k2:=e2.cy s1;refine ⟨Pu2,s2,Ex.trans hs s1 e1 e2,v,vs,rfl,sF.mono k2.p k2.i ⟨Sh.gA hy r1,fun ql=>?_,fun hgf=>?_⟩,r2⟩
      .subst ql
       cases t with
       |agg l=>cases a with |agg _=>grind
       |_=>cases hg
      .subst hgf
       have ho:t.one=true:=by
        cases t with
        |agg l=>cases hg
        |_=>simpa [TV.cells] using hone
       exact jG (a.one ho)
     .cases h
    .cases h
   .cases h
theorem rZ:∀ {l:List (Bool×Sh)} {x:aw l},(dC l x).length=l.length:=by
 intro l
 induction l with
 |nil=>intro x;rfl
 |cons p r ih=>intro x;obtain ⟨g,s⟩:=p;simp [dC,ih]
theorem PE {l:List (Bool×Sh)} {t:TV} {v:Value} {x:aw l} (hs:au P hint sh Γ Pu H I) (h:EL l t H=some x) (hr:GR Γ Pu I t v):
  ∃ Pu1 H1,au P hint sh Γ Pu1 H1 I/\Ex (bk Γ H I) Γ Pu H I Γ Pu1 H1 I/\∀ Γ2,GR Γ2 Pu1 I (jk (dC l x)) v:=by
 unfold EL at h;split at h
 .rename_i vs
  cases hr with |ja hr=>
  cases hb:Nat.beq l.length 1 with
  |true=>grind
  |false=>
   rw [hb] at h;simp only [zab] at h;split at h
   .rename_i y H1 hd
    cases h;obtain ⟨Pu1,s1,e1,d1⟩:=ji hs hd hr;refine ⟨Pu1,H1,s1,e1,fun Γ2=>?_⟩;have hl:=rZ (l:=l) (x:=x);have hg:=d1.QV (Γ:=Γ2);have:jk (dC l x)= .ja (dC l x):=by
     cases hq:dC l x with
     |nil=>rfl
     |cons a r=>
      cases r with
      |nil=>simp_all
      |cons b r=>rfl
    rw [this];exact .ja hg
   .cases h
 .split at h
  .rename_i y H1 hd
   cases h;obtain ⟨Pu1,s1,e1,d1⟩:=ji hs hd (.cons hr .nil);refine ⟨Pu1,H1,s1,e1,fun Γ2=>?_⟩;have hg:=d1.QV (Γ:=Γ2);cases hq:dC l x with
   |nil=>rw [hq] at hg;cases hg
   |cons a r=>
    rw [hq] at hg;cases hg with |cons c d=>cases d;exact c
  .cases h
theorem CF {l:List (Bool×Sh)} {w:Value} {x:aw l×GH} (h:nD l [.J6 w] H=some x):False:=by
 cases l with
 |nil=>cases h
 |cons p r=>
  obtain ⟨g,s⟩:=p;simp only [nD] at h;replace h:=ad h;cases h.2
theorem Lm {l:List (Bool×Sh)} {w:Value} {x:aw l} (h:EL l (.J6 w) H=some x):False:=by
 unfold EL at h;split at h
 .grind
 .split at h
  .rename_i hd;exact CF hd
  .cases h
structure ig (P:Program) (hint:Hint) (sh:bU) (it:fH) (n:Nat):Prop where
 run:∀ {x:aw it.pa} {y:aw it.re} {Γ:aN} {Pu:Nat->Prop} {I:IH} {vs:List Value},it.F n x=some y->au P hint sh Γ Pu H0 I->sN Pu I it.pa x vs->
  ∃ Pu1 I1 v,cX P hint (ev P hint (cj hint) (n+it.D)) it.f vs I=some (.returned v,I1)/\(∀ Γ2,GR Γ2 Pu1 I1 (jk (dC it.re y)) v)/\I.n<=I1.n/\(∀ b,b<I.n->I1.get b=I.get b)/\(∀ b,I1.n<=b->I1.get b=none)/\
   (∀ b,Pu1 b->∃ cs et fz ex sd,I1.get b=some (.cells cs et fz ex sd))/\(∀ b,b<I.n->Pu1 b->Pu b)/\(∀ b,Pu b->Pu1 b)
theorem ig.of {it:fH} {n:Nat} {hk:(Z:Type)->rW Z} {sh:bU} (ho:∀ m,m<=n+it.D->rC P hint sh (hk (aw it.re)) m)
  (h:∀ x,nc stx P sh hint (gv stx P sh hint (hk (aw it.re)) (n+it.D)) it.f (dC it.pa x) H0 (EL it.re)=it.F n x):ig P hint sh it n where
 run:=fun {x y Γ Pu I vs} hF hs hd=>by
  have ok:=Ld (P:=P) (hint:=hint) (sh:=sh) (hk:=hk (aw it.re)) (n+it.D) ho;rw [←h x] at hF;rcases pT ok hs hF (hd.QV (Γ:=Γ)) with ⟨t,H1,Γ1,Pu1,v,I1,k1,k2,k3,k4,k5⟩ |⟨w,H1,_,_,_,k1,_⟩
  case inr=>exact (Lm k1).elim
  obtain ⟨Pu2,H2,s2,e2,g2⟩:=PE k4 k1 k3;refine ⟨Pu2,I1,v,k2,g2,k5.n,fun b hb=>k5.cE b hb (RY b),k4.fresh,s2.pu,fun b hb hp=>?_,fun b hp=>e2.p b (k5.p b hp)⟩;rcases e2.pn b (Nat.lt_of_lt_of_le hb k5.n) hp with h1 |h1
  .exact (k5.pn b hb h1).elim id fun h2=>absurd h2 (RY b)
  .exact absurd (k5.own b hb h1) (RY b)
theorem LG {s:Sh}:wm s=false->∀ {x:s.ty} {vs:List Value} {Γ1:aN} {Pu1:Nat->Prop} {I1:IH},br Γ Pu I (s.cV x) vs->br Γ1 Pu1 I1 (s.cV x) vs:=by
 induction s with
 |bH e ih=>intro h;cases h
 |cons a b iha ihb=>
  intro h x vs Γ1 Pu1 I1 he;simp only [wm,Bool.or_eq_false_iff] at h;simp only [Sh.cV] at he ⊢;obtain ⟨u,w,rfl,h1,h2⟩:=he.split;exact (iha h.1 h1).append (ihb h.2 h2)
 |int k=>intro _ x vs Γ1 Pu1 I1 he;cases he with |cons a b=>cases a;cases b;exact .cons (.int _ _) .nil
 |byte=>intro _ x vs Γ1 Pu1 I1 he;cases he with |cons a b=>cases a;cases b;exact .cons (.byte _) .nil
 |bool=>intro _ x vs Γ1 Pu1 I1 he;cases he with |cons a b=>cases a;cases b;exact .cons (.bool _) .nil
 |str=>intro _ x vs Γ1 Pu1 I1 he;cases he with |cons a b=>cases a;cases b;exact .cons (.str _) .nil
theorem Iy:∀ {l:List (Bool×Sh)} {x:aw l} {vs:List Value} {Γ1:aN} {Pu1:Nat->Prop} {I1:IH},l.any (fun p=>wm p.2)=false->br Γ Pu I (dC l x) vs->br Γ1 Pu1 I1 (dC l x) vs:=by
 intro l
 induction l with
 |nil=>intro x vs Γ1 Pu1 I1 _ h;cases h;exact .nil
 |cons p r ih=>
  intro x vs Γ1 Pu1 I1 hf h;obtain ⟨g,s⟩:=p;simp only [List.any_cons,Bool.or_eq_false_iff] at hf;simp only [dC] at h ⊢;cases h with |cons a b=>
  refine .cons ?_ (ih hf.2 b);cases g with
  |true=>cases a with |agg a=>exact .agg (LG hf.1 a)
  |false=>
   simp only [zab] at a ⊢;cases s with
   |int k=>cases a;exact .int _ _
   |byte=>cases a;exact .byte _
   |bool=>cases a;exact .bool _
   |str=>cases a;exact .str _
   |bH e=>cases hf.1
   |cons s1 s2=>
    have:∀ {s:Sh} {x:s.ty},wm s=false->∃ t r,s.cV x=t::r/\∀ {v:Value} {Γ Γ1:aN} {Pu Pu1:Nat->Prop} {I I1:IH},GR Γ Pu I t v->GR Γ1 Pu1 I1 t v:=by
     intro s
     induction s with
     |int k=>intro x _;exact ⟨_,_,rfl,fun h=>by cases h;exact .int _ _⟩
     |byte=>intro x _;exact ⟨_,_,rfl,fun h=>by cases h;exact .byte _⟩
     |bool=>intro x _;exact ⟨_,_,rfl,fun h=>by cases h;exact .bool _⟩
     |str=>intro x _;exact ⟨_,_,rfl,fun h=>by cases h;exact .str _⟩
     |bH e _=>intro x h;cases h
     |cons a b iha ihb=>
      intro x h;simp only [wm,Bool.or_eq_false_iff] at h;obtain ⟨t,r,e,k⟩:=iha (x:=x.1) h.1;exact ⟨t,r++b.cV x.2,by simp only [Sh.cV,e];rfl,k⟩
    obtain ⟨t,r,e,k⟩:=this (s:= .cons s1 s2) (x:=x.1) hf.1
    grind
theorem DC {l:List (Bool×Sh)} {x:aw l} {v:Value} {Γ1:aN} {Pu1:Nat->Prop} {I1:IH} (hf:l.any (fun p=>wm p.2)=false) (h:GR Γ Pu I (jk (dC l x)) v):GR Γ1 Pu1 I1 (jk (dC l x)) v:=by
 have key:=fun vs=>Iy (Γ:=Γ) (Pu:=Pu) (I:=I) (l:=l) (x:=x) (vs:=vs) (Γ1:=Γ1) (Pu1:=Pu1) (I1:=I1) hf
 cases hq:dC l x with
 |nil=>rw [hq] at h;cases h with |ja h=>cases h;exact .ja .nil
 |cons a r=>
  rw [hq] at h key;cases r with
  |nil=>
   have:=key [v] (.cons h .nil);cases this with |cons c d=>exact c
  |cons b r=>
   cases h with |ja h=>exact .ja (key _ h)
theorem ig.eR {it:fH} {n:Nat} (hok:∀ m,m+it.D=n->ig P hint sh it m) {args:List TV} {args':List Value} {K:TV->GH->Option Z} (h:it.eR Z n args H K=some r) (hs:au P hint sh Γ Pu H I) (ha:br Γ Pu I args args'):
  gb P hint sh K r Γ Pu H I (cX P hint (ev P hint (cj hint) n) it.f args' I):=by
 unfold fH.eR at h;replace h:=ad h;obtain ⟨hb,h⟩:=h;have hle:=aF hb;unfold fH.body at h;split at h
 .rename_i x H1 hd
  cases hF:it.F (n - it.D) x with
  |none=>grind
  |some y=>
   rw [hF] at h;simp only [zaa] at h;obtain ⟨Pu1,s1,e1,d1⟩:=ji hs hd ha;obtain ⟨Pu2,I2,v,r1,r2,r3,r4,r5,r6,r7,r8⟩:=(hok (n - it.D) (by omega)).run hF s1.inside d1;rw [show n - it.D+it.D=n by omega] at r1;cases hl:it.re.any (fun p=>wm p.2) with
   |true=>
    rw [hl] at h;obtain ⟨s2,e2⟩:=s1.outside r3 r4 r5 r6 r7;refine .inl ⟨_,_,_,_,v,I2,h,r1,?_,s2,Ex.trans hs s1 e1 e2⟩;have hP:(fun b=>Pu1 b\/Pu2 b)=Pu2:=by funext b;exact propext ⟨fun h=>h.elim (r8 b) id,.inr⟩
    grind
   |false=>
    rw [hl] at h;obtain ⟨s2,e2⟩:=hs.outside (Pu1:=fun _=>False) r3 r4 r5 (fun b h=>h.elim) (fun b _ h=>h.elim);exact .inl ⟨_,_,_,_,v,I2,h,r1,DC hl (r2 Γ),s2,e2⟩
 .cases h
end
end Go.Gv
