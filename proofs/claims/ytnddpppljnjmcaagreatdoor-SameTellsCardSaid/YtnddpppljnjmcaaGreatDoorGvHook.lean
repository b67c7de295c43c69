/- Functions and loops that plain functions stand for: what is to be shown of each, and that it may be used. -/
import Derived.Test.YtnddpppljnjmcaaGreatDoorGvLift
set_option linter.unusedSimpArgs false
set_option linter.unusedVariables false
namespace Go.Gv
open Go Go.Iv
abbrev bW:List (Bool×Sh)→Type
 | []=>Unit
 |(_,s)::r=>s.ty×bW r
noncomputable section
def gZ:(l:List (Bool×Sh))→bW l→List TV
 | [],_=> []
 |(g,s)::r,x=>(bif g then .agg (s.cZ x.1) else (s.cZ x.1).headD .undef)::gZ r x.2
def Hw:(l:List (Bool×Sh))→List TV→GH→Option (bW l×GH)
 | [],[],H=>some ((),H)
 |(g,s)::r,t::ts,H=>bif (match t with
   | .agg _=>g
   |_=> !g) then
  match gM t.cells H with
  |some (cs,H)=>match s.lO cs with
   |some x=>match Hw r ts H with
    |some (y,H)=>some ((x,y),H)
    |none=>none
   |none=>none
  |none=>none
  else none
 |_,_,_=>none
def nI:List TV→TV
 | [v]=>v
 |vs=> .jI vs
def QX (l:List (Bool×Sh)) (v:TV) (H:GH):Option (bW l):=
 match v with
 | .jI vs=>bif Nat.beq l.length 1 then none else match Hw l vs H with
  |some (x,_)=>some x
  |none=>none
 |v=>match Hw l [v] H with
  |some (x,_)=>some x
  |none=>none
def xC:Sh→Bool
 | .bQ _=>true
 | .cons a b=>xC a ||xC b
 |_=>false
def H0:GH:=⟨.nil,64,0⟩
structure aT where
 f:FuncId
 pa:List (Bool×Sh)
 re:List (Bool×Sh)
 D:Nat
 F:Nat→bW pa→Option (bW re)
def aT.body (β:Type) (it:aT) (M:Nat) (args:List TV) (H:GH) (K:TV→GH→Option β):Option β:=
 match Hw it.pa args H with
 |some (x,H')=>(it.F M x).bind fun y=>K (nI (gZ it.re y)) (bif it.re.any (fun p=>xC p.2) then H' else H)
 |none=>none
def aT.au (β:Type) (it:aT):Nat→List TV→GH→(TV→GH→Option β)→Option β:=fun N args H K=>
 bif Nat.ble it.D N then it.body β (N - it.D) args H K else none
inductive XK where
 |exit (id:Nat)
 |ret
def XK.SE:XK→X
 | .exit id=> .exit id
 | .ret=> .ret
def XK.is:XK→X→Bool
 | .exit id,.exit j=>Nat.beq id j
 | .ret,.ret=>true
 |_,_=>false
abbrev u9:List (XK×Tm)→Type
 | []=>Empty
 | [(_,T)]=>T.ty
 |(_,T)::r=>T.ty⊕u9 r
def Jq:(l:List (XK×Tm))→X→GE→GH→Option (u9 l)
 | [],_,_,_=>none
 | [(k,T)],x,E,H=>bif k.is x then T.take E H else none
 |(k,T)::q::r,x,E,H=>bif k.is x then (match T.take E H with
   |some y=>some (.inl y)
   |none=>none) else match Jq (q::r) x E H with
   |some y=>some (.inr y)
   |none=>none
def O8 {β:Type}:(l:List (XK×Tm))→u9 l→(X→GE→GH→Option β)→Option β
 | [],_,_=>none
 | [(k,T)],y,K=>K k.SE (T.E y) (T.H y)
 |(k,T)::q::r,y,K=>match y with
  | .inl y=>K k.SE (T.E y) (T.H y)
  | .inr y=>O8 (q::r) y K
def mD:List Nat→GH→GH
 | [],H=>H
 |k::r,H=>mD r (H.del k)
def GH.back (H1:GH) (k:Nat) (p:Option (Nat×cb)):GH:=match p with
 |some p=>⟨Tr.pG (some p) (Nat.succ k) H1.t k,H1.n,H1.ck⟩
 |none=>H1
def wP:List Nat→GH→GH→GH
 | [],_,H1=>H1
 |k::r,H,H1=>(wP r (H.del k) H1).back k (H.t.AK k)
structure aA where
 bB:Nat
 gw:Nat
 ro:Option Nat
 T:Tm
 ex:List (XK×Tm)
 D:Nat
 L:Nat→T.ty→Option (u9 ex)
 fr:List Nat
def aA.au (β:Type) (it:aA):Nat→GE→GH→(X→GE→GH→Option β)→Option (Option β):=fun N E H K=>
 bif Nat.ble it.D N &&Nat.beq H.n it.T.n0 &&Nat.ble H.ck it.T.ck then
  match it.T.take E (mD it.fr H) with
  |some x=>some ((it.L (N - it.D) x).bind fun y=>O8 it.ex y fun x E H1=>K x E (wP it.fr H H1))
  |none=>none
 else none
def aA.Kb (it:aA) (m:Nat):X→GE→GH→Option (u9 it.ex):=fun x E H=>match x with
 | .normal=>match it.T.take E H with
  |some s=>it.L m s
  |none=>none
 |x=>Jq it.ex x E H
structure aj where
 fns:List aT
 loops:List aA
def vP:Option Nat→Option Nat→Bool
 |none,none=>true
 |some a,some b=>Nat.beq a b
 |_,_=>false
def findF (f:FuncId):List aT→Option aT
 | []=>none
 |it::r=>bif Nat.beq it.f f then some it else findF f r
def Qn (bB gw:Nat) (ro:Option Nat):List aA→Option aA
 | []=>none
 |it::r=>bif Nat.beq it.bB bB &&Nat.beq it.gw gw &&vP it.ro ro then some it else Qn bB gw ro r
def Kl (β:Type) (bB gw:Nat) (ro:Option Nat):List aA→Nat→GE→GH→(X→GE→GH→Option β)→Option (Option β)
 | [],_,_,_,_=>none
 |it::r,N,E,H,K=>bif Nat.beq it.bB bB &&Nat.beq it.gw gw &&vP it.ro ro then match it.au β N E H K with
   |some x=>some x
   |none=>Kl β bB gw ro r N E H K
  else Kl β bB gw ro r N E H K
def aj.hk (k:aj) (β:Type):xY β where
 call:=fun f=>match findF f k.fns with
  |some it=>some (it.au β)
  |none=>none
 loop:=fun bB gw ro=>match Qn bB gw ro k.loops with
  |some _=>some (Kl β bB gw ro k.loops)
  |none=>none
end
section
variable {P:Program} {hint:Hint} {sh:cr} {O:Nat→Prop} {Γ Γ1 Γ':bb} {Pu Pu1:Nat→Prop} {H H1:GH} {I I1:IH} {β:Type} {r:β}
theorem ar.outside (hs:ar P hint sh Γ Pu H I) (hn:I.n≤I1.n) (hk:∀ b,b<I.n→I1.get b=I.get b) (hf:∀ b,I1.n≤b→I1.get b=none) (hp:∀ b,Pu1 b→∃ cs et fz ex sd,I1.get b=some (.cells cs et fz ex sd)) (hq:∀ b,b<I.n→Pu1 b→Pu b):
  ar P hint sh Γ (fun b=>Pu b∨Pu1 b) H I1∧Ex (bM Γ H I) Γ Pu H I Γ (fun b=>Pu b∨Pu1 b) H I1:=by
 have kk:cy Γ Pu I Γ (fun b=>Pu b∨Pu1 b) I1:=⟨fun _ _ h=>h,fun _ h=> .inl h,fun b hb=>hk b (hs.jx hb)⟩
 have hpos:∀ id o l b x,H.get id=some o→o.ej=true→Γ id=some l→l.pos=some (b,x)→I1.get b=I.get b:=fun id o l b x hg hm hl hp=>hk b (hs.cj (.pos hg hm hl hp))
 refine ⟨⟨?_,hs.J5 hpos,?_,hs.aW,hf,?_,Nat.le_trans hs.ro hn,hs.gn,hs.ct,hs.st,hs.mF kk.p kk.i⟩,⟨fun _ _ h=>h,Nat.le_refl _,hn,fun _ h=> .inl h,fun b hb _=>hk b hb,fun b _ h=>pr hpos h,?_,Nat.le_refl _,fun _ _=> .inr (.inl rfl),?_⟩⟩
 ·intro id o hg
  obtain ⟨l,hl,_⟩:=hs.obj id o hg
  exact ⟨l,hl,hs.dS kk hg hl fun hm b hat=>hk b (hs.cj ⟨id,o,l,hg,hm,hl,hat⟩)⟩
 ·intro b hb hpu
  have hb:=pr hpos hb
  rcases hpu with h |h
  ·exact hs.sep b hb h
  ·exact hs.sep b hb (hq b (hs.cj hb) h)
 ·intro b hb
  rcases hb with h |h
  ·obtain ⟨cs,et,fz,ex,sd,hg⟩:=hs.pu b h
   exact ⟨cs,et,fz,ex,sd,(hk b (hs.lt hg)).trans hg⟩
  ·exact hp b h
 ·intro b hb h
  rcases h with h |h
  ·exact .inl h
  ·exact .inl (hq b hb h)
 ·intro id l b x s h1 _ hl hp'
  exact hs.ew kk h1 hl hp' fun o hg hm=>hpos id o l b x hg hm hl hp'
theorem ml (id:Nat):H0.get id=none:=rfl
theorem ar.inside (hs:ar P hint sh Γ Pu H I):ar P hint sh (fun g=>if g<bT then Γ g else none) Pu H0 I where
 obj:=fun id o h=>by rw [ml] at h;cases h
 inj:=fun id id' o o' l l' b h=>by rw [ml] at h;cases h
 sep:=fun b ⟨id,o,l,h,_⟩=>by rw [ml] at h;cases h
 aW:=fun id l h=>by
  split at h
  ·rename_i hlt
   have:bT=32:=rfl
   show id<64
   omega
  ·cases h
 fresh:=hs.fresh
 pu:=hs.pu
 ro:=hs.ro
 gn:=by decide
 ct:=fun g hg=>by
  obtain ⟨l,h1,h2⟩:=hs.ct g hg
  exact ⟨l,by rw [if_pos hg];exact h1,h2⟩
 st:=fun id s h=>by cases h
 Ll:=hs.Ll
theorem Rb (b:Nat):¬ bM Γ H0 I b:=fun ⟨id,o,l,h,_⟩=>by rw [ml] at h;cases h
def vi (Pu:Nat→Prop) (I:IH):(l:List (Bool×Sh))→bW l→List Value→Prop
 | [],_,vs=>vs= []
 |(g,s)::r,x,vs=>∃ v w,vs=v::w∧mT Pu I g s x.1 v∧vi Pu I r x.2 w
theorem vi.SG:∀ {l:List (Bool×Sh)} {x:bW l} {vs:List Value},vi Pu I l x vs→bG Γ Pu I (gZ l x) vs:=by
 intro l
 induction l with
 |nil=>intro x vs h;unfold vi at h;subst h;exact .nil
 |cons p r ih=>
  intro x vs h
  obtain ⟨g,s⟩:=p
  obtain ⟨v,w,rfl,h1,h2⟩:=h
  exact .cons h1.gr (ih h2)
theorem vi.mono (hp:∀ b,Pu b→Pu1 b) (hi:∀ b,Pu b→I1.get b=I.get b):∀ {l:List (Bool×Sh)} {x:bW l} {vs:List Value},vi Pu I l x vs→vi Pu1 I1 l x vs:=by
 intro l
 induction l with
 |nil=>intro x vs h;exact h
 |cons p r ih=>
  intro x vs h
  obtain ⟨g,s⟩:=p
  obtain ⟨v,w,rfl,h1,h2⟩:=h
  exact ⟨v,w,rfl,h1.mono hp hi,ih h2⟩
theorem A2:∀ {l:List (Bool×Sh)} {ts:List TV} {vs:List Value} {x:bW l} {H H1:GH} {Pu:Nat→Prop},ar P hint sh Γ Pu H I→Hw l ts H=some (x,H1)→bG Γ Pu I ts vs→
  ∃ Pu1,ar P hint sh Γ Pu1 H1 I∧Ex (bM Γ H I) Γ Pu H I Γ Pu1 H1 I∧vi Pu1 I l x vs:=by
 intro l
 induction l with
 |nil=>
  intro ts vs x H H1 Pu hs h hr
  cases ts with
  |nil=>unfold Hw at h;cases h;cases hr;exact ⟨Pu,hs,Ex.refl hs,rfl⟩
  |cons=>cases h
 |cons p r ih=>
  intro ts vs x H H1 Pu hs h hr
  obtain ⟨g,s⟩:=p
  cases hr with
  |nil=>cases h
  |cons a b=>
   rename_i t ts v vs
   simp only [Hw] at h
   replace h:=ad h;obtain ⟨hg,h⟩:=h
   split at h
   ·rename_i cs H2 hp
    split at h
    ·rename_i y hy
     split at h
     ·rename_i z H3 hz
      cases h
      have hone:=yl hp
      have hc:=a.cells hone
      obtain ⟨Pu1,s1,e1,r1⟩:=iu hs hp hc
      obtain ⟨Pu2,s2,e2,r2⟩:=ih s1 hz (b.mono (e1.cQ hs))
      have k2:=e2.cQ s1
      refine ⟨Pu2,s2,Ex.trans hs s1 e1 e2,v,vs,rfl,mT.mono k2.p k2.i ⟨Sh.eE hy r1,fun hgt=>?_,fun hgf=>?_⟩,r2⟩
      ·subst hgt
       cases t with
       |agg l=>cases a with |agg _=>exact ⟨_,rfl⟩
       |_=>cases hg
      ·subst hgf
       have ho:t.one=true:=by
        cases t with
        |agg l=>cases hg
        |_=>simpa [TV.cells] using hone
       exact kX (a.one ho)
     ·cases h
    ·cases h
   ·cases h
theorem DF:∀ {l:List (Bool×Sh)} {x:bW l},(gZ l x).length=l.length:=by
 intro l
 induction l with
 |nil=>intro x;rfl
 |cons p r ih=>intro x;obtain ⟨g,s⟩:=p;simp [gZ,ih]
theorem OB {l:List (Bool×Sh)} {t:TV} {v:Value} {x:bW l} (hs:ar P hint sh Γ Pu H I) (h:QX l t H=some x) (hr:GR Γ Pu I t v):
  ∃ Pu1 H1,ar P hint sh Γ Pu1 H1 I∧Ex (bM Γ H I) Γ Pu H I Γ Pu1 H1 I∧∀ Γ2,GR Γ2 Pu1 I (nI (gZ l x)) v:=by
 unfold QX at h
 split at h
 ·rename_i vs
  cases hr with |jI hr=>
  cases hb:Nat.beq l.length 1 with
  |true=>rw [hb] at h;cases h
  |false=>
   rw [hb] at h
   simp only [cond_false] at h
   split at h
   ·rename_i y H1 hd
    cases h
    obtain ⟨Pu1,s1,e1,d1⟩:=A2 hs hd hr
    refine ⟨Pu1,H1,s1,e1,fun Γ2=>?_⟩
    have hl:=DF (l:=l) (x:=x)
    have hg:=d1.SG (Γ:=Γ2)
    have:nI (gZ l x)= .jI (gZ l x):=by
     cases hq:gZ l x with
     |nil=>rfl
     |cons a r=>
      cases r with
      |nil=>rw [hq] at hl;rw [←hl] at hb;cases hb
      |cons b r=>rfl
    rw [this]
    exact .jI hg
   ·cases h
 ·split at h
  ·rename_i y H1 hd
   cases h
   obtain ⟨Pu1,s1,e1,d1⟩:=A2 hs hd (.cons hr .nil)
   refine ⟨Pu1,H1,s1,e1,fun Γ2=>?_⟩
   have hg:=d1.SG (Γ:=Γ2)
   cases hq:gZ l x with
   |nil=>rw [hq] at hg;cases hg
   |cons a r=>
    rw [hq] at hg
    cases hg with |cons c d=>cases d;exact c
  ·cases h
structure ao (P:Program) (hint:Hint) (sh:cr) (it:aT) (n:Nat):Prop where
 run:∀ {x:bW it.pa} {y:bW it.re} {Γ:bb} {Pu:Nat→Prop} {I:IH} {vs:List Value},it.F n x=some y→ar P hint sh Γ Pu H0 I→vi Pu I it.pa x vs→
  ∃ Pu1 I1 v,eT P hint (ev P hint (cw hint) (n+it.D)) it.f vs I=some (.returned v,I1)∧(∀ Γ2,GR Γ2 Pu1 I1 (nI (gZ it.re y)) v)∧I.n≤I1.n∧(∀ b,b<I.n→I1.get b=I.get b)∧(∀ b,I1.n≤b→I1.get b=none)∧
   (∀ b,Pu1 b→∃ cs et fz ex sd,I1.get b=some (.cells cs et fz ex sd))∧(∀ b,b<I.n→Pu1 b→Pu b)∧(∀ b,Pu b→Pu1 b)
theorem ao.of {it:aT} {n:Nat} {hk:(β:Type)→xY β} {sh:cr} (ho:∀ m,m≤n+it.D→Bb P hint sh (hk (bW it.re)) m)
  (h:∀ x,D7 stx P sh hint (gv stx P sh hint (hk (bW it.re)) (n+it.D)) it.f (gZ it.pa x) H0 (QX it.re)=it.F n x):ao P hint sh it n where
 run:=fun {x y Γ Pu I vs} hF hs hd=>by
  have ok:=Qj (P:=P) (hint:=hint) (sh:=sh) (hk:=hk (bW it.re)) (n+it.D) ho
  rw [←h x] at hF
  obtain ⟨t,H1,Γ1,Pu1,v,I1,k1,k2,k3,k4,k5⟩:=wU ok hs hF (hd.SG (Γ:=Γ))
  obtain ⟨Pu2,H2,s2,e2,g2⟩:=OB k4 k1 k3
  refine ⟨Pu2,I1,v,k2,g2,k5.n,fun b hb=>k5.dj b hb (Rb b),k4.fresh,s2.pu,fun b hb hp=>?_,fun b hp=>e2.p b (k5.p b hp)⟩
  rcases e2.pn b (Nat.lt_of_lt_of_le hb k5.n) hp with h1 |h1
  ·exact (k5.pn b hb h1).elim id fun h2=>absurd h2 (Rb b)
  ·exact absurd (k5.own b hb h1) (Rb b)
theorem MZ {s:Sh}:xC s=false→∀ {x:s.ty} {vs:List Value} {Γ1:bb} {Pu1:Nat→Prop} {I1:IH},bG Γ Pu I (s.cZ x) vs→bG Γ1 Pu1 I1 (s.cZ x) vs:=by
 induction s with
 |bQ e ih=>intro h;cases h
 |cons a b iha ihb=>
  intro h x vs Γ1 Pu1 I1 he
  simp only [xC,Bool.or_eq_false_iff] at h
  simp only [Sh.cZ] at he ⊢
  obtain ⟨u,w,rfl,h1,h2⟩:=he.split
  exact (iha h.1 h1).append (ihb h.2 h2)
 |int k=>intro _ x vs Γ1 Pu1 I1 he;cases he with |cons a b=>cases a;cases b;exact .cons (.int _ _) .nil
 |byte=>intro _ x vs Γ1 Pu1 I1 he;cases he with |cons a b=>cases a;cases b;exact .cons (.byte _) .nil
 |bool=>intro _ x vs Γ1 Pu1 I1 he;cases he with |cons a b=>cases a;cases b;exact .cons (.bool _) .nil
 |str=>intro _ x vs Γ1 Pu1 I1 he;cases he with |cons a b=>cases a;cases b;exact .cons (.str _) .nil
theorem JZ:∀ {l:List (Bool×Sh)} {x:bW l} {vs:List Value} {Γ1:bb} {Pu1:Nat→Prop} {I1:IH},l.any (fun p=>xC p.2)=false→bG Γ Pu I (gZ l x) vs→bG Γ1 Pu1 I1 (gZ l x) vs:=by
 intro l
 induction l with
 |nil=>intro x vs Γ1 Pu1 I1 _ h;cases h;exact .nil
 |cons p r ih=>
  intro x vs Γ1 Pu1 I1 hf h
  obtain ⟨g,s⟩:=p
  simp only [List.any_cons,Bool.or_eq_false_iff] at hf
  simp only [gZ] at h ⊢
  cases h with |cons a b=>
  refine .cons ?_ (ih hf.2 b)
  cases g with
  |true=>cases a with |agg a=>exact .agg (MZ hf.1 a)
  |false=>
   simp only [cond_false] at a ⊢
   cases s with
   |int k=>cases a;exact .int _ _
   |byte=>cases a;exact .byte _
   |bool=>cases a;exact .bool _
   |str=>cases a;exact .str _
   |bQ e=>cases hf.1
   |cons s1 s2=>
    have:∀ {s:Sh} {x:s.ty},xC s=false→∃ t r,s.cZ x=t::r∧∀ {v:Value} {Γ Γ1:bb} {Pu Pu1:Nat→Prop} {I I1:IH},GR Γ Pu I t v→GR Γ1 Pu1 I1 t v:=by
     intro s
     induction s with
     |int k=>intro x _;exact ⟨_,_,rfl,fun h=>by cases h;exact .int _ _⟩
     |byte=>intro x _;exact ⟨_,_,rfl,fun h=>by cases h;exact .byte _⟩
     |bool=>intro x _;exact ⟨_,_,rfl,fun h=>by cases h;exact .bool _⟩
     |str=>intro x _;exact ⟨_,_,rfl,fun h=>by cases h;exact .str _⟩
     |bQ e _=>intro x h;cases h
     |cons a b iha ihb=>
      intro x h
      simp only [xC,Bool.or_eq_false_iff] at h
      obtain ⟨t,r,e,k⟩:=iha (x:=x.1) h.1
      exact ⟨t,r++b.cZ x.2,by simp only [Sh.cZ,e];rfl,k⟩
    obtain ⟨t,r,e,k⟩:=this (s:= .cons s1 s2) (x:=x.1) hf.1
    rw [e] at a ⊢
    exact k a
theorem F3 {l:List (Bool×Sh)} {x:bW l} {v:Value} {Γ1:bb} {Pu1:Nat→Prop} {I1:IH} (hf:l.any (fun p=>xC p.2)=false) (h:GR Γ Pu I (nI (gZ l x)) v):GR Γ1 Pu1 I1 (nI (gZ l x)) v:=by
 have key:=fun vs=>JZ (Γ:=Γ) (Pu:=Pu) (I:=I) (l:=l) (x:=x) (vs:=vs) (Γ1:=Γ1) (Pu1:=Pu1) (I1:=I1) hf
 cases hq:gZ l x with
 |nil=>rw [hq] at h;cases h with |jI h=>cases h;exact .jI .nil
 |cons a r=>
  rw [hq] at h key
  cases r with
  |nil=>
   have:=key [v] (.cons h .nil)
   cases this with |cons c d=>exact c
  |cons b r=>
   cases h with |jI h=>exact .jI (key _ h)
theorem ao.au {it:aT} {n:Nat} (hok:∀ m,m+it.D=n→ao P hint sh it m) {args:List TV} {args':List Value} {K:TV→GH→Option β} (h:it.au β n args H K=some r) (hs:ar P hint sh Γ Pu H I) (ha:bG Γ Pu I args args'):
  iK P hint sh K r Γ Pu H I (eT P hint (ev P hint (cw hint) n) it.f args' I):=by
 unfold aT.au at h
 replace h:=ad h;obtain ⟨hb,h⟩:=h
 have hle:=aQ hb
 unfold aT.body at h
 split at h
 ·rename_i x H1 hd
  cases hF:it.F (n - it.D) x with
  |none=>rw [hF] at h;cases h
  |some y=>
   rw [hF] at h
   simp only [Option.bind_some] at h
   obtain ⟨Pu1,s1,e1,d1⟩:=A2 hs hd ha
   obtain ⟨Pu2,I2,v,r1,r2,r3,r4,r5,r6,r7,r8⟩:=(hok (n - it.D) (by omega)).run hF s1.inside d1
   rw [show n - it.D+it.D=n by omega] at r1
   cases hl:it.re.any (fun p=>xC p.2) with
   |true=>
    rw [hl] at h
    obtain ⟨s2,e2⟩:=s1.outside r3 r4 r5 r6 r7
    refine ⟨_,_,_,_,v,I2,h,r1,?_,s2,Ex.trans hs s1 e1 e2⟩
    have hP:(fun b=>Pu1 b∨Pu2 b)=Pu2:=by funext b;exact propext ⟨fun h=>h.elim (r8 b) id,.inr⟩
    rw [hP]
    exact r2 _
   |false=>
    rw [hl] at h
    obtain ⟨s2,e2⟩:=hs.outside (Pu1:=fun _=>False) r3 r4 r5 (fun b h=>h.elim) (fun b _ h=>h.elim)
    exact ⟨_,_,_,_,v,I2,h,r1,F3 hl (r2 Γ),s2,e2⟩
 ·cases h
end
end Go.Gv
