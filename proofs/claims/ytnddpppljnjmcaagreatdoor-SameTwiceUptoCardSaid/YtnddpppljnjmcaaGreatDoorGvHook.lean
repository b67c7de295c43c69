/- Functions and loops that plain functions stand for: what is to be shown of each, and that it may be used. -/
import Derived.Test.YtnddpppljnjmcaaGreatDoorGvLift
set_option linter.unusedSimpArgs false
set_option linter.unusedVariables false
namespace Go.Gv
open Go Go.Iv
abbrev argsTy:List (Bool×Sh)→Type
 | []=>Unit
 |(_,s)::r=>s.ty×argsTy r
noncomputable section
def encA:(l:List (Bool×Sh))→argsTy l→List TV
 | [],_=> []
 |(g,s)::r,x=>(bif g then .agg (s.tvs x.1) else (s.tvs x.1).headD .undef)::encA r x.2
def decA:(l:List (Bool×Sh))→List TV→GH→Option (argsTy l×GH)
 | [],[],H=>some ((),H)
 |(g,s)::r,t::ts,H=>bif (match t with
   | .agg _=>g
   |_=> !g) then
  match pureL t.cells H with
  |some (cs,H)=>match s.ofAll cs with
   |some x=>match decA r ts H with
    |some (y,H)=>some ((x,y),H)
    |none=>none
   |none=>none
  |none=>none
  else none
 |_,_,_=>none
def resTV:List TV→TV
 | [v]=>v
 |vs=> .tup vs
def decR (l:List (Bool×Sh)) (v:TV) (H:GH):Option (argsTy l):=
 match v with
 | .tup vs=>bif Nat.beq l.length 1 then none else match decA l vs H with
  |some (x,_)=>some x
  |none=>none
 |v=>match decA l [v] H with
  |some (x,_)=>some x
  |none=>none
def hasL:Sh→Bool
 | .slc _=>true
 | .cons a b=>hasL a ||hasL b
 |_=>false
def H0:GH:= ⟨.nil,64,0⟩
structure FnIt where
 f:FuncId
 pa:List (Bool×Sh)
 re:List (Bool×Sh)
 D:Nat
 F:Nat→argsTy pa→Option (argsTy re)
def FnIt.body (β:Type) (it:FnIt) (M:Nat) (args:List TV) (H:GH) (K:TV→GH→Option β):Option β:=
 match decA it.pa args H with
 |some (x,H')=>(it.F M x).bind fun y=>K (resTV (encA it.re y)) (bif it.re.any (fun p=>hasL p.2) then H' else H)
 |none=>none
def FnIt.hook (β:Type) (it:FnIt):Nat→List TV→GH→(TV→GH→Option β)→Option β:=fun N args H K=>
 bif Nat.ble it.D N then it.body β (N - it.D) args H K else none
inductive XK where
 |exit (id:Nat)
 |ret
def XK.toX:XK→X
 | .exit id=> .exit id
 | .ret=> .ret
def XK.is:XK→X→Bool
 | .exit id,.exit j=>Nat.beq id j
 | .ret,.ret=>true
 |_,_=>false
abbrev exTy:List (XK×Tm)→Type
 | []=>Empty
 | [(_,T)]=>T.ty
 |(_,T)::r=>T.ty⊕exTy r
def getX:(l:List (XK×Tm))→X→GE→GH→Option (exTy l)
 | [],_,_,_=>none
 | [(k,T)],x,E,H=>bif k.is x then T.take E H else none
 |(k,T)::q::r,x,E,H=>bif k.is x then (match T.take E H with
   |some y=>some (.inl y)
   |none=>none) else match getX (q::r) x E H with
   |some y=>some (.inr y)
   |none=>none
def putX {β:Type}:(l:List (XK×Tm))→exTy l→(X→GE→GH→Option β)→Option β
 | [],_,_=>none
 | [(k,T)],y,K=>K k.toX (T.E y) (T.H y)
 |(k,T)::q::r,y,K=>match y with
  | .inl y=>K k.toX (T.E y) (T.H y)
  | .inr y=>putX (q::r) y K
def delL:List Nat→GH→GH
 | [],H=>H
 |k::r,H=>delL r (H.del k)
def GH.back (H1:GH) (k:Nat) (p:Option (Nat×GObj)):GH:=match p with
 |some p=> ⟨Tr.putQ (some p) (Nat.succ k) H1.t k,H1.n,H1.ck⟩
 |none=>H1
def backL:List Nat→GH→GH→GH
 | [],_,H1=>H1
 |k::r,H,H1=>(backL r (H.del k) H1).back k (H.t.getF k)
structure LoopIt where
 fid:Nat
 rid:Nat
 ro:Option Nat
 T:Tm
 ex:List (XK×Tm)
 D:Nat
 L:Nat→T.ty→Option (exTy ex)
 fr:List Nat
def LoopIt.hook (β:Type) (it:LoopIt):Nat→GE→GH→(X→GE→GH→Option β)→Option (Option β):=fun N E H K=>
 bif Nat.ble it.D N &&Nat.beq H.n it.T.n0 &&Nat.ble H.ck it.T.ck then
  match it.T.take E (delL it.fr H) with
  |some x=>some ((it.L (N - it.D) x).bind fun y=>putX it.ex y fun x E H1=>K x E (backL it.fr H H1))
  |none=>none
 else none
def LoopIt.Kb (it:LoopIt) (m:Nat):X→GE→GH→Option (exTy it.ex):=fun x E H=>match x with
 | .normal=>match it.T.take E H with
  |some s=>it.L m s
  |none=>none
 |x=>getX it.ex x E H
structure Known where
 fns:List FnIt
 loops:List LoopIt
def sameRo:Option Nat→Option Nat→Bool
 |none,none=>true
 |some a,some b=>Nat.beq a b
 |_,_=>false
def findF (f:FuncId):List FnIt→Option FnIt
 | []=>none
 |it::r=>bif Nat.beq it.f f then some it else findF f r
def findL (fid rid:Nat) (ro:Option Nat):List LoopIt→Option LoopIt
 | []=>none
 |it::r=>bif Nat.beq it.fid fid &&Nat.beq it.rid rid &&sameRo it.ro ro then some it else findL fid rid ro r
def tryL (β:Type) (fid rid:Nat) (ro:Option Nat):List LoopIt→Nat→GE→GH→(X→GE→GH→Option β)→Option (Option β)
 | [],_,_,_,_=>none
 |it::r,N,E,H,K=>bif Nat.beq it.fid fid &&Nat.beq it.rid rid &&sameRo it.ro ro then match it.hook β N E H K with
   |some x=>some x
   |none=>tryL β fid rid ro r N E H K
  else tryL β fid rid ro r N E H K
def Known.hk (k:Known) (β:Type):Hooks β where
 call:=fun f=>match findF f k.fns with
  |some it=>some (it.hook β)
  |none=>none
 loop:=fun fid rid ro=>match findL fid rid ro k.loops with
  |some _=>some (tryL β fid rid ro k.loops)
  |none=>none
end
section
variable {P:Program} {hint:Hint} {sh:ShT} {O:Nat→Prop} {Γ Γ1 Γ':Gam} {Pu Pu1:Nat→Prop} {H H1:GH} {I I1:IH} {β:Type} {r:β}
theorem Sim.outside (hs:Sim P hint sh Γ Pu H I) (hn:I.n≤I1.n) (hk:∀ b,b<I.n→I1.get b=I.get b) (hf:∀ b,I1.n≤b→I1.get b=none) (hp:∀ b,Pu1 b→∃ cs et fz ex sd,I1.get b=some (.cells cs et fz ex sd)) (hq:∀ b,b<I.n→Pu1 b→Pu b):
  Sim P hint sh Γ (fun b=>Pu b∨Pu1 b) H I1∧Ex (Own Γ H I) Γ Pu H I Γ (fun b=>Pu b∨Pu1 b) H I1:=by
 have kk:Keep Γ Pu I Γ (fun b=>Pu b∨Pu1 b) I1:= ⟨fun _ _ h=>h,fun _ h=> .inl h,fun b hb=>hk b (hs.pu_lt hb)⟩
 have hpos:∀ id o l b x,H.get id=some o→o.mut=true→Γ id=some l→l.pos=some (b,x)→I1.get b=I.get b:=fun id o l b x hg hm hl hp=>hk b (hs.own_lt (.pos hg hm hl hp))
 refine ⟨⟨?_,hs.injK hpos,?_,hs.dom,hf,?_,Nat.le_trans hs.ro hn,hs.gn,hs.glob,hs.st,hs.tabK kk.p kk.i⟩,⟨fun _ _ h=>h,Nat.le_refl _,hn,fun _ h=> .inl h,fun b hb _=>hk b hb,fun b _ h=>ownK hpos h,?_,Nat.le_refl _,fun _ _=> .inr (.inl rfl),?_⟩⟩
 ·intro id o hg
  obtain ⟨l,hl,_⟩:=hs.obj id o hg
  exact ⟨l,hl,hs.obj_keep kk hg hl fun hm b hat=>hk b (hs.own_lt ⟨id,o,l,hg,hm,hl,hat⟩)⟩
 ·intro b hb hpu
  have hb:=ownK hpos hb
  rcases hpu with h |h
  ·exact hs.sep b hb h
  ·exact hs.sep b hb (hq b (hs.own_lt hb) h)
 ·intro b hb
  rcases hb with h |h
  ·obtain ⟨cs,et,fz,ex,sd,hg⟩:=hs.pu b h
   exact ⟨cs,et,fz,ex,sd,(hk b (hs.lt hg)).trans hg⟩
  ·exact hp b h
 ·intro b hb h
  rcases h with h |h
  ·exact .inl h
  ·exact .inl (hq b hb h)
 ·intro id l b x s h1 _ hl hp'
  exact hs.hist_keep kk h1 hl hp' fun o hg hm=>hpos id o l b x hg hm hl hp'
theorem H0_get (id:Nat):H0.get id=none:=rfl
theorem Sim.inside (hs:Sim P hint sh Γ Pu H I):Sim P hint sh (fun g=>if g<glN then Γ g else none) Pu H0 I where
 obj:=fun id o h=>by rw [H0_get] at h;cases h
 inj:=fun id id' o o' l l' b h=>by rw [H0_get] at h;cases h
 sep:=fun b ⟨id,o,l,h,_⟩=>by rw [H0_get] at h;cases h
 dom:=fun id l h=>by
  split at h
  ·rename_i hlt
   have:glN=32:=rfl
   show id<64
   omega
  ·cases h
 fresh:=hs.fresh
 pu:=hs.pu
 ro:=hs.ro
 gn:=by decide
 glob:=fun g hg=>by
  obtain ⟨l,h1,h2⟩:=hs.glob g hg
  exact ⟨l,by rw [if_pos hg];exact h1,h2⟩
 st:=fun id s h=>by cases h
 tab:=hs.tab
theorem own0 (b:Nat):¬ Own Γ H0 I b:=fun ⟨id,o,l,h,_⟩=>by rw [H0_get] at h;cases h
def Dats (Pu:Nat→Prop) (I:IH):(l:List (Bool×Sh))→argsTy l→List Value→Prop
 | [],_,vs=>vs= []
 |(g,s)::r,x,vs=>∃ v w,vs=v::w∧Dat Pu I g s x.1 v∧Dats Pu I r x.2 w
theorem Dats.grs:∀ {l:List (Bool×Sh)} {x:argsTy l} {vs:List Value},Dats Pu I l x vs→GRs Γ Pu I (encA l x) vs:=by
 intro l
 induction l with
 |nil=>intro x vs h;unfold Dats at h;subst h;exact .nil
 |cons p r ih=>
  intro x vs h
  obtain ⟨g,s⟩:=p
  obtain ⟨v,w,rfl,h1,h2⟩:=h
  exact .cons h1.gr (ih h2)
theorem Dats.mono (hp:∀ b,Pu b→Pu1 b) (hi:∀ b,Pu b→I1.get b=I.get b):∀ {l:List (Bool×Sh)} {x:argsTy l} {vs:List Value},Dats Pu I l x vs→Dats Pu1 I1 l x vs:=by
 intro l
 induction l with
 |nil=>intro x vs h;exact h
 |cons p r ih=>
  intro x vs h
  obtain ⟨g,s⟩:=p
  obtain ⟨v,w,rfl,h1,h2⟩:=h
  exact ⟨v,w,rfl,h1.mono hp hi,ih h2⟩
theorem decA_ok:∀ {l:List (Bool×Sh)} {ts:List TV} {vs:List Value} {x:argsTy l} {H H1:GH} {Pu:Nat→Prop},Sim P hint sh Γ Pu H I→decA l ts H=some (x,H1)→GRs Γ Pu I ts vs→
  ∃ Pu1,Sim P hint sh Γ Pu1 H1 I∧Ex (Own Γ H I) Γ Pu H I Γ Pu1 H1 I∧Dats Pu1 I l x vs:=by
 intro l
 induction l with
 |nil=>
  intro ts vs x H H1 Pu hs h hr
  cases ts with
  |nil=>unfold decA at h;cases h;cases hr;exact ⟨Pu,hs,Ex.refl hs,rfl⟩
  |cons=>cases h
 |cons p r ih=>
  intro ts vs x H H1 Pu hs h hr
  obtain ⟨g,s⟩:=p
  cases hr with
  |nil=>cases h
  |cons a b=>
   rename_i t ts v vs
   simp only [decA] at h
   replace h:=bif_some h;obtain ⟨hg,h⟩:=h
   split at h
   ·rename_i cs H2 hp
    split at h
    ·rename_i y hy
     split at h
     ·rename_i z H3 hz
      cases h
      have hone:=pureL_one hp
      have hc:=a.cells hone
      obtain ⟨Pu1,s1,e1,r1⟩:=pureL_ok hs hp hc
      obtain ⟨Pu2,s2,e2,r2⟩:=ih s1 hz (b.mono (e1.keepV hs))
      have k2:=e2.keepV s1
      refine ⟨Pu2,s2,Ex.trans hs s1 e1 e2,v,vs,rfl,Dat.mono k2.p k2.i ⟨Sh.ofAll_ok hy r1,fun hgt=>?_,fun hgf=>?_⟩,r2⟩
      ·subst hgt
       cases t with
       |agg l=>cases a with |agg _=>exact ⟨_,rfl⟩
       |_=>cases hg
      ·subst hgf
       have ho:t.one=true:=by
        cases t with
        |agg l=>cases hg
        |_=>simpa [TV.cells] using hone
       exact cells_one (a.one ho)
     ·cases h
    ·cases h
   ·cases h
theorem encA_length:∀ {l:List (Bool×Sh)} {x:argsTy l},(encA l x).length=l.length:=by
 intro l
 induction l with
 |nil=>intro x;rfl
 |cons p r ih=>intro x;obtain ⟨g,s⟩:=p;simp [encA,ih]
theorem decR_ok {l:List (Bool×Sh)} {t:TV} {v:Value} {x:argsTy l} (hs:Sim P hint sh Γ Pu H I) (h:decR l t H=some x) (hr:GR Γ Pu I t v):
  ∃ Pu1 H1,Sim P hint sh Γ Pu1 H1 I∧Ex (Own Γ H I) Γ Pu H I Γ Pu1 H1 I∧∀ Γ2,GR Γ2 Pu1 I (resTV (encA l x)) v:=by
 unfold decR at h
 split at h
 ·rename_i vs
  cases hr with |tup hr=>
  cases hb:Nat.beq l.length 1 with
  |true=>rw [hb] at h;cases h
  |false=>
   rw [hb] at h
   simp only [cond_false] at h
   split at h
   ·rename_i y H1 hd
    cases h
    obtain ⟨Pu1,s1,e1,d1⟩:=decA_ok hs hd hr
    refine ⟨Pu1,H1,s1,e1,fun Γ2=>?_⟩
    have hl:=encA_length (l:=l) (x:=x)
    have hg:=d1.grs (Γ:=Γ2)
    have:resTV (encA l x)= .tup (encA l x):=by
     cases hq:encA l x with
     |nil=>rfl
     |cons a r=>
      cases r with
      |nil=>rw [hq] at hl;rw [←hl] at hb;cases hb
      |cons b r=>rfl
    rw [this]
    exact .tup hg
   ·cases h
 ·split at h
  ·rename_i y H1 hd
   cases h
   obtain ⟨Pu1,s1,e1,d1⟩:=decA_ok hs hd (.cons hr .nil)
   refine ⟨Pu1,H1,s1,e1,fun Γ2=>?_⟩
   have hg:=d1.grs (Γ:=Γ2)
   cases hq:encA l x with
   |nil=>rw [hq] at hg;cases hg
   |cons a r=>
    rw [hq] at hg
    cases hg with |cons c d=>cases d;exact c
  ·cases h
structure FnOK (P:Program) (hint:Hint) (sh:ShT) (it:FnIt) (n:Nat):Prop where
 run:∀ {x:argsTy it.pa} {y:argsTy it.re} {Γ:Gam} {Pu:Nat→Prop} {I:IH} {vs:List Value},it.F n x=some y→Sim P hint sh Γ Pu H0 I→Dats Pu I it.pa x vs→
  ∃ Pu1 I1 v,evCall P hint (ev P hint (gspec hint) (n+it.D)) it.f vs I=some (.returned v,I1)∧(∀ Γ2,GR Γ2 Pu1 I1 (resTV (encA it.re y)) v)∧I.n≤I1.n∧(∀ b,b<I.n→I1.get b=I.get b)∧(∀ b,I1.n≤b→I1.get b=none)∧
   (∀ b,Pu1 b→∃ cs et fz ex sd,I1.get b=some (.cells cs et fz ex sd))∧(∀ b,b<I.n→Pu1 b→Pu b)∧(∀ b,Pu b→Pu1 b)
theorem FnOK.of {it:FnIt} {n:Nat} {hk:(β:Type)→Hooks β} {sh:ShT} (ho:∀ m,m≤n+it.D→HookOK P hint sh (hk (argsTy it.re)) m)
  (h:∀ x,gCall stx P sh hint (gv stx P sh hint (hk (argsTy it.re)) (n+it.D)) it.f (encA it.pa x) H0 (decR it.re)=it.F n x):FnOK P hint sh it n where
 run:=fun {x y Γ Pu I vs} hF hs hd=>by
  have ok:=gv_ok (P:=P) (hint:=hint) (sh:=sh) (hk:=hk (argsTy it.re)) (n+it.D) ho
  rw [←h x] at hF
  obtain ⟨t,H1,Γ1,Pu1,v,I1,k1,k2,k3,k4,k5⟩:=gCall_ok ok hs hF (hd.grs (Γ:=Γ))
  obtain ⟨Pu2,H2,s2,e2,g2⟩:=decR_ok k4 k1 k3
  refine ⟨Pu2,I1,v,k2,g2,k5.n,fun b hb=>k5.keep b hb (own0 b),k4.fresh,s2.pu,fun b hb hp=>?_,fun b hp=>e2.p b (k5.p b hp)⟩
  rcases e2.pn b (Nat.lt_of_lt_of_le hb k5.n) hp with h1 |h1
  ·exact (k5.pn b hb h1).elim id fun h2=>absurd h2 (own0 b)
  ·exact absurd (k5.own b hb h1) (own0 b)
theorem tvs_free {s:Sh}:hasL s=false→∀ {x:s.ty} {vs:List Value} {Γ1:Gam} {Pu1:Nat→Prop} {I1:IH},GRs Γ Pu I (s.tvs x) vs→GRs Γ1 Pu1 I1 (s.tvs x) vs:=by
 induction s with
 |slc e ih=>intro h;cases h
 |cons a b iha ihb=>
  intro h x vs Γ1 Pu1 I1 he
  simp only [hasL,Bool.or_eq_false_iff] at h
  simp only [Sh.tvs] at he ⊢
  obtain ⟨u,w,rfl,h1,h2⟩:=he.split
  exact (iha h.1 h1).append (ihb h.2 h2)
 |int k=>intro _ x vs Γ1 Pu1 I1 he;cases he with |cons a b=>cases a;cases b;exact .cons (.int _ _) .nil
 |byte=>intro _ x vs Γ1 Pu1 I1 he;cases he with |cons a b=>cases a;cases b;exact .cons (.byte _) .nil
 |bool=>intro _ x vs Γ1 Pu1 I1 he;cases he with |cons a b=>cases a;cases b;exact .cons (.bool _) .nil
 |str=>intro _ x vs Γ1 Pu1 I1 he;cases he with |cons a b=>cases a;cases b;exact .cons (.str _) .nil
theorem encA_free:∀ {l:List (Bool×Sh)} {x:argsTy l} {vs:List Value} {Γ1:Gam} {Pu1:Nat→Prop} {I1:IH},l.any (fun p=>hasL p.2)=false→GRs Γ Pu I (encA l x) vs→GRs Γ1 Pu1 I1 (encA l x) vs:=by
 intro l
 induction l with
 |nil=>intro x vs Γ1 Pu1 I1 _ h;cases h;exact .nil
 |cons p r ih=>
  intro x vs Γ1 Pu1 I1 hf h
  obtain ⟨g,s⟩:=p
  simp only [List.any_cons,Bool.or_eq_false_iff] at hf
  simp only [encA] at h ⊢
  cases h with |cons a b=>
  refine .cons ?_ (ih hf.2 b)
  cases g with
  |true=>cases a with |agg a=>exact .agg (tvs_free hf.1 a)
  |false=>
   simp only [cond_false] at a ⊢
   cases s with
   |int k=>cases a;exact .int _ _
   |byte=>cases a;exact .byte _
   |bool=>cases a;exact .bool _
   |str=>cases a;exact .str _
   |slc e=>cases hf.1
   |cons s1 s2=>
    have:∀ {s:Sh} {x:s.ty},hasL s=false→∃ t r,s.tvs x=t::r∧∀ {v:Value} {Γ Γ1:Gam} {Pu Pu1:Nat→Prop} {I I1:IH},GR Γ Pu I t v→GR Γ1 Pu1 I1 t v:=by
     intro s
     induction s with
     |int k=>intro x _;exact ⟨_,_,rfl,fun h=>by cases h;exact .int _ _⟩
     |byte=>intro x _;exact ⟨_,_,rfl,fun h=>by cases h;exact .byte _⟩
     |bool=>intro x _;exact ⟨_,_,rfl,fun h=>by cases h;exact .bool _⟩
     |str=>intro x _;exact ⟨_,_,rfl,fun h=>by cases h;exact .str _⟩
     |slc e _=>intro x h;cases h
     |cons a b iha ihb=>
      intro x h
      simp only [hasL,Bool.or_eq_false_iff] at h
      obtain ⟨t,r,e,k⟩:=iha (x:=x.1) h.1
      exact ⟨t,r++b.tvs x.2,by simp only [Sh.tvs,e];rfl,k⟩
    obtain ⟨t,r,e,k⟩:=this (s:= .cons s1 s2) (x:=x.1) hf.1
    rw [e] at a ⊢
    exact k a
theorem resTV_free {l:List (Bool×Sh)} {x:argsTy l} {v:Value} {Γ1:Gam} {Pu1:Nat→Prop} {I1:IH} (hf:l.any (fun p=>hasL p.2)=false) (h:GR Γ Pu I (resTV (encA l x)) v):GR Γ1 Pu1 I1 (resTV (encA l x)) v:=by
 have key:=fun vs=>encA_free (Γ:=Γ) (Pu:=Pu) (I:=I) (l:=l) (x:=x) (vs:=vs) (Γ1:=Γ1) (Pu1:=Pu1) (I1:=I1) hf
 cases hq:encA l x with
 |nil=>rw [hq] at h;cases h with |tup h=>cases h;exact .tup .nil
 |cons a r=>
  rw [hq] at h key
  cases r with
  |nil=>
   have:=key [v] (.cons h .nil)
   cases this with |cons c d=>exact c
  |cons b r=>
   cases h with |tup h=>exact .tup (key _ h)
theorem FnOK.hook {it:FnIt} {n:Nat} (hok:∀ m,m+it.D=n→FnOK P hint sh it m) {args:List TV} {args':List Value} {K:TV→GH→Option β} (h:it.hook β n args H K=some r) (hs:Sim P hint sh Γ Pu H I) (ha:GRs Γ Pu I args args'):
  CallGood P hint sh K r Γ Pu H I (evCall P hint (ev P hint (gspec hint) n) it.f args' I):=by
 unfold FnIt.hook at h
 replace h:=bif_some h;obtain ⟨hb,h⟩:=h
 have hle:=ble_true hb
 unfold FnIt.body at h
 split at h
 ·rename_i x H1 hd
  cases hF:it.F (n - it.D) x with
  |none=>rw [hF] at h;cases h
  |some y=>
   rw [hF] at h
   simp only [Option.bind_some] at h
   obtain ⟨Pu1,s1,e1,d1⟩:=decA_ok hs hd ha
   obtain ⟨Pu2,I2,v,r1,r2,r3,r4,r5,r6,r7,r8⟩:=(hok (n - it.D) (by omega)).run hF s1.inside d1
   rw [show n - it.D+it.D=n by omega] at r1
   cases hl:it.re.any (fun p=>hasL p.2) with
   |true=>
    rw [hl] at h
    obtain ⟨s2,e2⟩:=s1.outside r3 r4 r5 r6 r7
    refine ⟨_,_,_,_,v,I2,h,r1,?_,s2,Ex.trans hs s1 e1 e2⟩
    have hP:(fun b=>Pu1 b∨Pu2 b)=Pu2:=by funext b;exact propext ⟨fun h=>h.elim (r8 b) id,.inr⟩
    rw [hP]
    exact r2 _
   |false=>
    rw [hl] at h
    obtain ⟨s2,e2⟩:=hs.outside (Pu1:=fun _=>False) r3 r4 r5 (fun b h=>h.elim) (fun b _ h=>h.elim)
    exact ⟨_,_,_,_,v,I2,h,r1,resTV_free hl (r2 Γ),s2,e2⟩
 ·cases h
end
end Go.Gv
