/- Maps that hold lists: taken out, laid back. -/
import Derived.Test.YtnddpppljnjmcaaGreatDoorGvNestX
set_option linter.unusedSimpArgs false
set_option linter.unusedVariables false
namespace Go.Gv
open Go Go.Iv
section
variable {β:Type} {P:Program} {hint:Hint} {sh:cr} {Γ Γ1 Γ':bb} {Pu Pu1:Nat→Prop} {H H1:GH} {I I1 I':IH} {K:TV→GH→Option β} {r:β}
theorem pJ {k:Sh} {β:Type}:∀ {xs:List (k.ty×β)} {x:k.ty},cD k xs x=none→∀ (i:Nat) (p:k.ty×β),xs[i]? =some p→k.ie x p.1=false:=by
 intro xs
 induction xs with
 |nil=>intro x _ i p hp;simp at hp
 |cons q r ih=>
  intro x h i p hp
  unfold cD at h
  cases hq:k.ie x q.1 with
  |true=>rw [hq] at h;cases h
  |false=>
   rw [hq] at h
   cases i with
   |zero=>simp at hp;rw [←hp];exact hq
   |succ i=>exact ih h i p (by simpa using hp)
theorem yO {k:Sh} {β:Type}:∀ {xs:List (k.ty×β)} {x:k.ty} {y:β},cD k xs x=some y→∃ (i:Nat) (p:k.ty×β),xs[i]? =some p∧p=(x,y)∧(∀ (j:Nat) (q:k.ty×β),j<i→xs[j]? =some q→k.ie x q.1=false)∧(∀ z,cE k xs x z=xs.set i (x,z))∧(∀ z,jP k xs x z=xs.set i (x,z)):=by
 intro xs
 induction xs with
 |nil=>intro x y h;cases h
 |cons q r ih=>
  intro x y h
  unfold cD at h
  cases hq:k.ie x q.1 with
  |true=>
   rw [hq] at h
   cases h
   have:=Sh.AX hq
   refine ⟨0,q,rfl,by rw [this],fun j q hj=>absurd hj (Nat.not_lt_zero _),fun z=>?_,fun z=>?_⟩
   ·simp only [cE,hq,cond_true,List.set_cons_zero]
   ·rw [this] at hq
    simp only [jP,hq,cond_true,List.set_cons_zero,this]
  |false=>
   rw [hq] at h
   obtain ⟨i,p,h1,h2,h3,h4,h5⟩:=ih h
   refine ⟨i+1,p,by simpa using h1,h2,fun j q' hj hq'=>?_,fun z=>?_,fun z=>?_⟩
   ·cases j with
    |zero=>simp at hq';rw [←hq'];exact hq
    |succ j=>exact h3 j q' (by omega) (by simpa using hq')
   ·simp only [cE,hq,cond_false,List.set_cons_succ,h4]
   ·simp only [jP,hq,cond_false,List.set_cons_succ,h5]
theorem Ab {k:Sh} {β:Type}:∀ {xs:List (k.ty×β)} {x:k.ty},cD k xs x=none→∀ z,cE k xs x z=xs++ [(x,z)]∧jP k xs x z=xs:=by
 intro xs
 induction xs with
 |nil=>intro x _ z;exact ⟨rfl,rfl⟩
 |cons q r ih=>
  intro x h z
  unfold cD at h
  cases hq:k.ie x q.1 with
  |true=>rw [hq] at h;cases h
  |false=>
   rw [hq] at h
   simp only [cE,jP,hq,cond_false,(ih h z).1,(ih h z).2,List.cons_append,and_self]
theorem pX {t:TypeId} {s:Sh} (x:s.ty) (hc:dZ P t s=true):s.ie x x=true:=by
 unfold dZ at hc
 split at hc<;>first |(cases hc;done) |simp [Sh.ie]
theorem PM:∀ {fs:List Field} {i:Nat} {s:Sh} (x:s.ty),jJ P fs i s=true→s.ie x x=true:=by
 intro fs
 induction fs with
 |nil=>intro i s x h;unfold jJ at h;cases h
 |cons f r ih=>
  intro i s x h
  cases r with
  |nil=>
   simp only [jJ] at h
   exact pX x (Go.Gv.and_true h).2
  |cons q r=>
   cases s with
   |cons a b=>
    simp only [jJ] at h
    replace h:=Go.Gv.and_true h;obtain ⟨h,h3⟩:=h
    replace h:=Go.Gv.and_true h;obtain ⟨h1,h2⟩:=h
    simp only [Sh.ie,pX x.1 h2,ih x.2 h3,Bool.and_self]
   |_=>cases h
theorem kl {kt:TypeId} {gk:Bool} {k:Sh} (hk:gU P kt gk k=true) (x:k.ty):k.ie x x=true:=by
 unfold gU at hk
 split at hk
 ·exact PM x (Go.Gv.and_true hk).2
 ·exact pX x (Go.Gv.and_true hk).2
theorem Qa {kt:TypeId} {gk:Bool} {k:Sh} {β:Type} {x:k.ty} {v:Value} (hk:gU P kt gk k=true) (hd:mT Pu I gk k x v):∀ {xs:List (k.ty×β)} {es:List MapEntry} (i:Nat),es.length=xs.length→
  (∀ (j:Nat) (p:k.ty×β) (n:MapEntry),xs[j]? =some p→es[j]? =some n→mT Pu I gk k p.1 n.key)→
  (cD k xs x=none→er P kt v es i=some none)∧∀ y,cD k xs x=some y→∃ j n,er P kt v es i=some (some (i+j,n.val))∧es[j]? =some n∧xs[j]? =some (x,y):=by
 intro xs
 induction xs with
 |nil=>
      intro es i hl _;have:es= []:=by simpa using hl
      subst this;exact ⟨fun _=>rfl,fun y h=>by cases h⟩
 |cons p r ih=>
  intro es i hl he
  cases es with
  |nil=>simp at hl
  |cons n t=>
   have h1:=he 0 p n rfl rfl
   have hc:=(ei hk hd).2.2 h1
   obtain ⟨i1,i2⟩:=ih (es:=t) (i+1) (by simpa using hl) fun j q e a b=>he (j+1) q e (by simpa using a) (by simpa using b)
   cases hq:k.ie x p.1 with
   |true=>
    rw [hq] at hc
    refine ⟨fun h=>(by unfold cD at h;rw [hq] at h;cases h),fun y h=>?_⟩
    unfold cD at h;rw [hq] at h;cases h
    exact ⟨0,n,by simp only [er,hc];rfl,rfl,by rw [Sh.AX hq];rfl⟩
   |false=>
    rw [hq] at hc
    refine ⟨fun h=>?_,fun y h=>?_⟩
    ·unfold cD at h;rw [hq] at h
     simp only [er,hc];exact i1 h
    ·unfold cD at h;rw [hq] at h
     obtain ⟨j,n',f1,f2,f3⟩:=i2 y h
     exact ⟨j+1,n',by simp only [er,hc,f1];rw [Nat.add_right_comm,Nat.add_assoc],by simpa using f2,by simpa using f3⟩
theorem ar.Qu (hs:ar P hint sh Γ Pu H I) {id m:Nat} {kt:TypeId} {gk:Bool} {k:Sh} {net:TypeId} {ne:Sh} {xs xs':List (k.ty×List ne.ty)} {ho:Option (k.ty×Nat)} {em':Em} {ys:List ne.ty} {l lm:Loc}
  (hg:H.get id=some (.cz kt gk k net ne xs ho)) (hl:Γ id=some l) (hgm:H.get m=some (.arr net ne ys true false em')) (hem:em'= .ex∨ys≠ []) (hlm:Γ m=some lm)
  {x:k.ty} (hho:∀ y n,ho=some (y,n)→y=x) {b0 o:Nat} (hp:l.pos=some (b0,o)) {es es':List MapEntry} {ck ck':Nat} (hgb:I.get b0=some (.map es ck))
  (hI0:I'.get b0=some (.map es' ck')) (hI:∀ b,b≠b0→I'.get b=I.get b) (hIn:I'.n=I.n) {i0:Nat} (hlen:es'.length=List.length xs')
  (hnd:∀ (i j:Nat) (x y:k.ty×List ne.ty),xs'[i]? =some x→xs'[j]? =some y→x.1=y.1→i=j)
  (hE:∀ (i:Nat) (p:k.ty×List ne.ty) (e:MapEntry),xs'[i]? =some p→es'[i]? =some e→mT Pu I gk k p.1 e.key∧((i=i0∧p=(x,ys)∧eU lm 0 lm.len e.val)∨(i≠i0∧p.1≠x∧xs[i]? =some p∧es[i]? =some e))):
  ar P hint sh Γ Pu ((H.del m).put id (.cz kt gk k net ne xs' none)) I'∧Ex (bM Γ H I) Γ Pu H I Γ Pu ((H.del m).put id (.cz kt gk k net ne xs' none)) I':=by
 obtain ⟨l1,hl1,hN⟩:=hs.obj id _ hg
 cases hl.symm.trans hl1
 obtain ⟨l2,hl2,hA0⟩:=hs.obj m _ hgm
 cases hlm.symm.trans hl2
 have hA:fp Pu I lm net ne ys true false .ex:=fp.exact hA0 hem
 have hne:id≠m:=by rintro rfl;rw [hg] at hgm;cases hgm
 have hown:bM Γ H I b0:= .pos hg rfl hl hp
 have hnp:=hs.sep b0 hown
 have hk:cy Γ Pu I Γ Pu I':=⟨fun _ _ h=>h,fun _ h=>h,fun b hb=>hI b fun hc=>hnp (hc▸hb)⟩
 have hN':ep P Γ Pu I l kt gk k net ne xs ho:=hN
 obtain ⟨h1,h2,h3,b1,es1,ck1,hp1,hro,hg1,hlen1,hkk,hx,hh,hd⟩:=hN'
 cases hp.symm.trans hp1
 cases hgb.symm.trans hg1
 have arrI:∀ {l':Loc} {zs:List ne.ty},fp Pu I l' net ne zs true false .ex→fp Pu I' l' net ne zs true false .ex:=fun {l' zs} h=>h.mono hk.p hk.i fun b y hb=>hI b fun hc=>by
  obtain ⟨vs,f,ex,sd,hq⟩:=h.get hb
  rw [hc,hgb] at hq;cases hq
 have q2:∀ b j,MB I' l xs' none b j→(j=i0∧∃ y,lm.pos=some (b,y))∨(j≠i0∧MB I l xs (ho.map (·.1)) b j):=by
  rintro b j ⟨p,b2,o2,es2,ck2,e,n1,n2,n3,n4,n5,n6⟩
  cases hp.symm.trans n3
  cases hI0.symm.trans n4
  rcases (hE j p e n1 n5).2 with ⟨c1,_,c2⟩ |⟨c1,c2,c3,c4⟩
  ·exact .inl ⟨c1,BB c2 n6⟩
  ·refine .inr ⟨c1,p,b0,0,es,ck,e,c3,fun hc=>?_,hp,hgb,c4,n6⟩
   cases ho with
   |none=>cases hc
   |some q=>
    have:=hho q.1 q.2 rfl
    simp only [Option.map_some,Option.some.injEq] at hc
    exact c2 (hc.symm.trans this)
 have q1:ep P Γ Pu I' l kt gk k net ne xs' none:=by
  refine ⟨h1,h2,hnd,b0,es',ck',hp,hro,hI0,hlen,fun i p e a b=>(hE i p e a b).1.mono hk.p hk.i,fun i p e a b _=>?_,(fun y n h=>by cases h),fun i j b' n1 n2=>?_⟩
  ·rcases (hE i p e a b).2 with ⟨_,c1,c2⟩ |⟨c1,c2,c3,c4⟩
   ·subst c1
    exact ⟨lm,arrI hA,c2⟩
   ·obtain ⟨l',a1,a2⟩:=hx i p e c3 c4 fun hc=>by
     cases ho with
     |none=>cases hc
     |some q=>
      have:=hho q.1 q.2 rfl
      simp only [Option.map_some,Option.some.injEq] at hc
      exact c2 (hc.symm.trans this)
    exact ⟨l',arrI a1,a2⟩
  ·rcases q2 b' i n1 with ⟨c1,y,c2⟩ |⟨c1,c2⟩<;>rcases q2 b' j n2 with ⟨d1,z,d2⟩ |⟨d1,d2⟩
   ·rw [c1,d1]
   ·exact absurd (.inr ⟨j,d2⟩) (hs.Lz hg hgm rfl rfl hl hlm hne c2)
   ·exact absurd (.inr ⟨i,c2⟩) (hs.Lz hg hgm rfl rfl hl hlm hne d2)
   ·exact hd i j b' c2 d2
 refine hs.shift (fun k=>k=id∨k=m) ?_ ?_ (Nat.le_succ _) (Nat.le_refl _) (fun _ _ h=>h) (fun _ _ _ h=>h) hs.aW ?_ hIn ?_ ?_
 ·intro k ob hc h
  rw [GH.ah,GH.dc] at h
  split at h
  ·rename_i h1;exact absurd (.inl h1) hc
  ·split at h
   ·cases h
   ·exact h
 ·intro k s h
  rw [GH.eo,GH.fW] at h
  split at h
  ·cases h;exact .inr ⟨Nat.le_refl _,Nat.lt_succ_self _⟩
  ·rename_i h1
   split at h
   ·cases h
   ·rename_i h2;exact .inl ⟨h,fun hc=>hc.elim h1 h2⟩
 ·intro b hb
  exact hI b fun hc=>hb ⟨id,_,l,.inl rfl,hg,rfl,hl,.inl ⟨0,hc▸hp⟩⟩
 ·intro k ob hc h
  rw [GH.ah,GH.dc] at h
  split at h
  ·rename_i h1
   subst h1
   cases h
   refine ⟨l,hl,q1,rfl,fun b hat=>?_⟩
   rcases hat with ⟨y,h2⟩ |⟨j,hj⟩
   ·exact ⟨k,_,l,.inl rfl,hg,rfl,hl,.inl ⟨y,h2⟩⟩
   ·rcases q2 b j hj with ⟨_,y,hy⟩ |⟨_,h3⟩
    ·exact ⟨m,_,lm,.inr rfl,hgm,rfl,hlm,.inl ⟨y,hy⟩⟩
    ·exact ⟨k,_,l,.inl rfl,hg,rfl,hl,.inr ⟨j,h3⟩⟩
  ·rename_i h1
   split at h
   ·cases h
   ·rename_i h2;exact absurd hc (fun h=>h.elim h1 h2)
 ·intro k k' ob ob' l1 l2 b c1 c2 g1 g2 _ _ _ _
  have key:∀ {k ob},(k=id∨k=m)→((H.del m).put id (.cz kt gk _ net ne xs' none)).get k=some ob→k=id:=fun {k ob} hc h=>by
   rw [GH.ah,GH.dc] at h
   split at h
   ·assumption
   ·rename_i h1
    split at h
    ·cases h
    ·rename_i h2;exact absurd hc (fun h=>h.elim h1 h2)
  rw [key c1 g1,key c2 g2]
theorem A9 {α:Type} {xs:List α} {i:Nat} {a p:α} (h:(xs++ [a])[i]? =some p):(i=xs.length∧p=a)∨(i≠xs.length∧xs[i]? =some p):=by
 rcases Nat.lt_or_ge i xs.length with hlt |hge
 ·rw [List.getElem?_append_left hlt] at h
  exact .inr ⟨Nat.ne_of_lt hlt,h⟩
 ·rw [List.getElem?_append_right hge] at h
  have hi:=(List.getElem?_eq_some_iff.1 h).1
  simp only [List.length_singleton] at hi
  have:i=xs.length:=by omega
  subst this
  simp at h
  exact .inl ⟨rfl,h.symm⟩
theorem tg {α:Type} {xs:List α} {i j:Nat} {a p:α} (h:(xs.set i a)[j]? =some p):(j=i∧p=a)∨(j≠i∧xs[j]? =some p):=by
 rw [List.getElem?_set] at h
 split at h
 ·rename_i e
  split at h
  ·cases h;exact .inl ⟨e.symm,rfl⟩
  ·cases h
 ·rename_i e
  exact .inr ⟨fun hc=>e hc.symm,h⟩
theorem ym {k:Sh} {β:Type} {xs:List (k.ty×β)} (h3:∀ (i j:Nat) (x y:k.ty×β),xs[i]? =some x→xs[j]? =some y→x.1=y.1→i=j) {i0:Nat} {x:k.ty} {y z:β} (h0:xs[i0]? =some (x,y)):
  ∀ (i j:Nat) (p q:k.ty×β),(xs.set i0 (x,z))[i]? =some p→(xs.set i0 (x,z))[j]? =some q→p.1=q.1→i=j:=by
 intro i j p q hi hj hpq
 rcases tg hi with ⟨a1,a2⟩ |⟨a1,a2⟩<;>rcases tg hj with ⟨b1,b2⟩ |⟨b1,b2⟩
 ·rw [a1,b1]
 ·rw [a2] at hpq;exact a1.trans (h3 i0 j _ _ h0 b2 hpq)
 ·rw [b2] at hpq;exact (h3 i i0 _ _ a2 h0 hpq).trans b1.symm
 ·exact h3 i j p q a2 b2 hpq
theorem yF (hs:ar P hint sh Γ Pu H I) (id:Nat):ar P hint sh Γ Pu (vT H id) I∧Ex (bM Γ H I) Γ Pu H I Γ Pu (vT H id) I:=by
 unfold vT
 split
 ·rename_i kt gk k net ne xs x n hg
  split
  ·rename_i net' ne' ys hgn
   cases hb:Nat.beq net' net with
   |false=>exact ⟨hs,Ex.refl hs⟩
   |true=>
    have:=beq_true hb
    subst this
    simp only [cond_true]
    split
    ·rename_i hh _
     subst hh
     obtain ⟨l,hl,hN⟩:=hs.obj id _ hg
     have hN':ep P Γ Pu I l kt gk k net' ne' xs (some (x,n)):=hN
     obtain ⟨h1,h2,h3,b0,es,ck,hp,hro,hgb,hlen,hkk,hx,hh,hd⟩:=hN'
     obtain ⟨ln,a2,a3⟩:=hh x n rfl
     cases hq:cD k xs x with
     |none=>
      have hno:=pJ hq
      rw [show jP k xs x (eQ rfl ys)=xs from (Ab hq _).2]
      refine hs.Qu (x:=x) (i0:=xs.length) hg hl hgn (.inl rfl) a2 (fun y n h=>by cases h;rfl) hp hgb hgb (fun _ _=>rfl) rfl hlen h3 fun i p e hi he=>⟨hkk i p e hi he,.inr ⟨?_,?_,hi,he⟩⟩
      ·exact Nat.ne_of_lt (List.getElem?_eq_some_iff.1 hi).1
      ·intro hc
       have:=hno i p hi
       rw [hc,kl h1] at this;cases this
     |some y=>
      obtain ⟨i0,p0,g1,g2,g3,_,g5⟩:=yO hq
      subst g2
      rw [g5]
      refine hs.Qu (x:=x) (i0:=i0) hg hl hgn (.inl rfl) a2 (fun y n h=>by cases h;rfl) hp hgb hgb (fun _ _=>rfl) rfl (by rw [List.length_set];exact hlen) (ym h3 g1) fun i p e hi he=>?_
      rcases tg hi with ⟨c1,c2⟩ |⟨c1,c2⟩
      ·subst c1 c2
       exact ⟨hkk i (x,y) e g1 he,.inl ⟨rfl,rfl,a3 i (x,y) e g1 he rfl⟩⟩
      ·exact ⟨hkk i p e c2 he,.inr ⟨c1,fun hc=>c1 (h3 i i0 _ _ c2 g1 hc),c2,he⟩⟩
    ·exact ⟨hs,Ex.refl hs⟩
  ·exact ⟨hs,Ex.refl hs⟩
 ·exact ⟨hs,Ex.refl hs⟩
theorem ar.R5 (hs:ar P hint sh Γ Pu H I) {id:Nat} {kt:TypeId} {gk:Bool} {k:Sh} {net:TypeId} {ne:Sh} {xs:List (k.ty×List ne.ty)} {l:Loc}
  (hg:H.get id=some (.cz kt gk k net ne xs none)) (hl:Γ id=some l) {x:k.ty} {ys:List ne.ty} {l':Loc} (hA:fp Pu I l' net ne ys true false .ex)
  {b0:Nat} {es:List MapEntry} {ck:Nat} (hp:l.pos=some (b0,0)) (hgb:I.get b0=some (.map es ck))
  (hin:∀ (i:Nat) (p:k.ty×List ne.ty) (e:MapEntry),xs[i]? =some p→es[i]? =some e→p.1=x→eU l' 0 l'.len e.val)
  (hfr:∀ b y,l'.pos=some (b,y)→∃ (i:Nat) (p:k.ty×List ne.ty) (e:MapEntry),xs[i]? =some p∧es[i]? =some e∧p.1=x∧mW e.val=some b):
  ar P hint sh (Γ.up H.n l') Pu ((H.put id (.cz kt gk k net ne xs (some (x,H.n)))).new (.arr net ne ys true false .ex)) I∧
   Ex (bM Γ H I) Γ Pu H I (Γ.up H.n l') Pu ((H.put id (.cz kt gk k net ne xs (some (x,H.n)))).new (.arr net ne ys true false .ex)) I:=by
 obtain ⟨l1,hl1,hN⟩:=hs.obj id _ hg
 cases hl.symm.trans hl1
 have hN':ep P Γ Pu I l kt gk k net ne xs none:=hN
 obtain ⟨h1,h2,h3,b1,es1,ck1,hp1,hro,hg1,hlen1,hkk,hx,hh,hd⟩:=hN'
 cases hp.symm.trans hp1
 cases hgb.symm.trans hg1
 have hk:cy Γ Pu I (Γ.up H.n l') Pu I:=⟨fun _ _ h=>bb.dt hs h,fun _ h=>h,fun _ _=>rfl⟩
 have upn:Γ.up H.n l' H.n=some l':=by simp [bb.up]
 have stay:∀ b j,MB I l xs (some x) b j→(∀ p,xs[j]? =some p→p.1≠x)∧MB I l xs none b j:=by
  rintro b j ⟨p,b2,o2,es2,ck2,e,n1,n2,n3⟩
  exact ⟨fun q hq hc=>n2 (by rw [n1] at hq;cases hq;rw [hc]),p,b2,o2,es2,ck2,e,n1,by simp,n3⟩
 have outb:∀ b y,l'.pos=some (b,y)→∃ i,MB I l xs none b i∧∃ p,xs[i]? =some p∧p.1=x:=fun b y hp'=>by
  obtain ⟨i,p,e,c1,c2,c3,c4⟩:=hfr b y hp'
  exact ⟨i,⟨p,b0,0,es,ck,e,c1,by simp,hp,hgb,c2,c4⟩,p,c1,c3⟩
 have newN:ep P (Γ.up H.n l') Pu I l kt gk k net ne xs (some (x,H.n)):=by
  refine ⟨h1,h2,h3,b0,es,ck,hp,hro,hgb,hlen1,hkk,fun i p e a b _=>hx i p e a b (by simp),fun y m hm=>?_,fun i j b' n1 n2=>hd i j b' (stay b' i n1).2 (stay b' j n2).2⟩
  cases hm
  exact ⟨l',upn,hin⟩
 have hget:∀ j,((H.put id (.cz kt gk k net ne xs (some (x,H.n)))).new (.arr net ne ys true false .ex)).get j=if j=H.n then some (.arr net ne ys true false .ex) else if j=id then some (.cz kt gk k net ne xs (some (x,H.n))) else H.get j:=fun j=>by
  rw [GH.aw,GH.ah];rfl
 have hstm:∀ j,((H.put id (.cz kt gk k net ne xs (some (x,H.n)))).new (.arr net ne ys true false .ex)).bh j=if j=H.n then some (H.ck+1) else if j=id then some H.ck else H.bh j:=fun j=>by
  rw [GH.dH,GH.eo];rfl
 exact hs.shift (H':=(H.put id (.cz kt gk k net ne xs (some (x,H.n)))).new (.arr net ne ys true false .ex)) (Γ':=Γ.up H.n l') (I':=I) (fun j=>j=id∨j=H.n)
  (fun j ob hc h=>by
   rw [hget] at h
   split at h
   ·rename_i c;exact absurd (.inr c) hc
   ·split at h
    ·rename_i c;exact absurd (.inl c) hc
    ·exact h)
  (fun j s h=>by
   rw [hstm] at h
   show _∨_∧s<H.ck+1+1
   split at h
   ·cases h;exact .inr ⟨by omega,by omega⟩
   ·rename_i c1
    split at h
    ·cases h;exact .inr ⟨by omega,by omega⟩
    ·rename_i c2;exact .inl ⟨h,fun hc=>hc.elim c2 c1⟩)
  (by show H.ck≤H.ck+1+1;omega) (Nat.le_succ _) hk.g
  (fun j lk hc h=>by
   unfold bb.up at h
   rw [if_neg (fun hc'=>hc (.inr hc'))] at h;exact h)
  (fun j lk h=>by
   unfold bb.up at h
   show j<H.n+1
   split at h
   ·omega
   ·have:=hs.aW j lk h;omega)
  (fun _ _=>rfl) rfl
  (fun j ob hc h=>by
   rw [hget] at h
   split at h
   ·rename_i c
    subst c
    cases h
    refine ⟨l',upn,hA,rfl,fun b hat=>?_⟩
    rcases hat with ⟨y,hp'⟩ |hh'
    ·obtain ⟨i,c1,_⟩:=outb b y hp'
     exact ⟨id,_,l,.inl rfl,hg,rfl,hl,.inr ⟨i,c1⟩⟩
    ·exact absurd hh' (fun h=>h)
   ·split at h
    ·rename_i c
     subst c
     cases h
     refine ⟨l,hk.g _ _ hl,newN,rfl,fun b hat=>?_⟩
     rcases hat with hat |⟨i,hi⟩
     ·exact ⟨j,_,l,.inl rfl,hg,rfl,hl,.inl hat⟩
     ·exact ⟨j,_,l,.inl rfl,hg,rfl,hl,.inr ⟨i,(stay b i hi).2⟩⟩
    ·rename_i c1 c2;exact absurd hc (fun h=>h.elim c2 c1))
  (fun j j' ob ob' l1 l2 b c1 c2 g1 g2 e1 e2 t1 t2=>by
   have cross:∀ b,At I l' (.arr net ne ys true false .ex) b→At I l (.cz kt gk k net ne xs (some (x,H.n))) b→False:=fun b u1 u2=>by
    rcases u1 with ⟨y,hp'⟩ |hh'
    ·obtain ⟨i,d1,p,d2,d3⟩:=outb b y hp'
     rcases u2 with ⟨z,hz⟩ |⟨i',hi'⟩
     ·rw [hp] at hz;cases hz
      obtain ⟨vs,f,ex,sd,hq⟩:=hA.get hp'
      rw [hgb] at hq;cases hq
     ·obtain ⟨q1,q2⟩:=stay b i' hi'
      have:=hd i i' b d1 q2
      subst this
      exact q1 p d2 d3
    ·exact hh'
   rw [hget] at g1 g2
   split at g1<;>split at g2
   ·rename_i a b;rw [a,b]
   ·rename_i a b
    subst a;cases g1;rw [upn] at e1;cases e1
    split at g2
    ·rename_i c
     subst c;cases g2
     cases (hk.g _ _ hl).symm.trans e2
     exact (cross _ t1 t2).elim
    ·rename_i c;exact absurd c2 (fun h=>h.elim c b)
   ·rename_i a b
    subst b;cases g2;rw [upn] at e2;cases e2
    split at g1
    ·rename_i c
     subst c;cases g1
     cases (hk.g _ _ hl).symm.trans e1
     exact (cross _ t2 t1).elim
    ·rename_i c;exact absurd c1 (fun h=>h.elim c a)
   ·rename_i a b
    rcases c1 with c1 |c1
    ·rcases c2 with c2 |c2
     ·rw [c1,c2]
     ·exact absurd c2 b
    ·exact absurd c1 a)
theorem Np (hs:ar P hint sh Γ Pu H I) {t:TypeId} {id:Nat} {k:TV} {x' k':Value} (h:Ns P H t id k K=some r) (hx:GR Γ Pu I (.mp id) x') (hk:GR Γ Pu I k k'):Good P hint sh K r Γ Pu H I (al (bH P I t x' k' false)):=by
 unfold Ns at h
 cases hx with |mp hl hv=>
 rename_i l
 split at h
 ·rename_i kt e kt' gk ks net ne xs hm hg
  replace h:=ad h;obtain ⟨hb,h⟩:=h
  replace hb:=Go.Gv.and_true hb;obtain ⟨hkb,hz⟩:=hb
  have hkt:=beq_true hkb
  subst hkt
  split at h
  ·rename_i kx hkx
   have hd:=oP hkx hk
   obtain ⟨l',hl',ho⟩:=hs.obj id _ hg
   cases hl.symm.trans hl'
   have hN':ep P Γ Pu I l kt gk ks net ne xs none:=ho
   obtain ⟨h1,h2,h3,b0,es,ck,hp,hro,hgb,hlen,hkk,hxx,hh,hdd⟩:=hN'
   unfold Li at hv
   rw [hp] at hv;subst hv
   have hzv:zeroOf P e=some (.slice none 0 0):=by
    unfold RQ at hz
    split at hz
    ·assumption
    ·cases hz
   obtain ⟨f1,f2⟩:=Qa h1 hd 0 hlen hkk
   cases hq:cD ks xs kx with
   |none=>
    have hno:=pJ hq
    simp only [bH,hm,hgb,(ei h1 hd).1,if_true,f1 hq,hzv,al]
    rw [show c8 ks xs kx []= [] by unfold c8;rw [hq];rfl] at h
    obtain ⟨s1,e1⟩:=hs.R5 (x:=kx) (ys:= []) (l':=⟨none,0,ne.sz,0⟩) hg hl ⟨rfl,rfl,h2,.inl ⟨rfl,rfl,by simp⟩⟩ hp hgb
     (fun i p e hi _ hc=>by have:=hno i p hi;rw [hc,kl h1] at this;cases this) (fun b y hc=>by cases hc)
    exact ⟨_,_,_,_,_,_,h,rfl,.all (l:=⟨none,0,ne.sz,0⟩) (by simp [bb.up]) ⟨rfl,rfl⟩,s1,e1⟩
   |some y=>
    obtain ⟨j,n,g1,g2,g3⟩:=f2 y hq
    simp only [bH,hm,hgb,(ei h1 hd).1,if_true,g1,al]
    rw [show c8 ks xs kx []=y by unfold c8;rw [hq];rfl] at h
    obtain ⟨l',a1,a2⟩:=hxx j _ n g3 g2 (by simp)
    obtain ⟨s1,e1⟩:=hs.R5 (x:=kx) (ys:=y) (l':=l') hg hl a1 hp hgb
     (fun i p e hi he hc=>by have:=h3 i j _ _ hi g3 hc;subst this;rw [g2] at he;cases he;exact a2) (fun b z hc=>⟨j,_,n,g3,g2,rfl,na a2 hc⟩)
    exact ⟨_,_,_,_,_,_,h,rfl,.all (l:=l') (by simp [bb.up]) a2,s1,e1⟩
  ·cases h
 ·cases h
theorem N9 {k v:Value}:∀ {es:List MapEntry} {j i:Nat} {e:MapEntry},(jM k v es j)[i]? =some e→(i=j∧∃ e0,es[j]? =some e0∧e={ e0 with key:=k,val:=v })∨(i≠j∧es[i]? =some e):=by
 intro es
 induction es with
 |nil=>intro j i e h;simp [jM] at h
 |cons a r ih=>
  intro j i e h
  cases j with
  |zero=>
   cases i with
   |zero=>simp [jM] at h;exact .inl ⟨rfl,a,rfl,h.symm⟩
   |succ i=>simp [jM] at h;exact .inr ⟨by simp,by simpa using h⟩
  |succ j=>
   cases i with
   |zero=>simp [jM] at h;exact .inr ⟨by simp,by simpa using h⟩
   |succ i=>
    simp [jM] at h
    rcases ih h with ⟨c1,c2⟩ |⟨c1,c2⟩
    ·exact .inl ⟨by rw [c1],by simpa using c2⟩
    ·exact .inr ⟨by simpa using c1,by simpa using c2⟩
theorem JG (hs:ar P hint sh Γ Pu H I) {t:TypeId} {id:Nat} {k v:TV} {m' k' v':Value} (h:GX dF P H t id k v K=some r) (hm:GR Γ Pu I (.mp id) m') (hk:GR Γ Pu I k k') (hv:GR Γ Pu I v v'):Good P hint sh K r Γ Pu H I (al (cK P I t m' k' v')):=by
 unfold GX at h
 cases hm with |mp hl hmv=>
 rename_i l
 split at h
 ·rename_i m
  cases hv with |all hlm hvv=>
  rename_i lm
  split at h
  ·rename_i kt e kt' gk ks net ne xs ho net' ne' ys em hmt hg hgm
   replace h:=ad h;obtain ⟨hb,h⟩:=h
   replace hb:=Go.Gv.and_true hb;obtain ⟨hkb,hnb⟩:=hb
   have hkt:=beq_true hkb
   have hnt:=beq_true hnb
   subst hkt hnt
   split at h
   ·rename_i kx hh hkx _
    subst hh
    replace h:=aE h;obtain ⟨hn,h⟩:=h
    replace hn:=Go.Gv.and_true hn;obtain ⟨hn1,hn2⟩:=hn
    have hd:=oP hkx hk
    obtain ⟨l',hl',hob⟩:=hs.obj id _ hg
    cases hl.symm.trans hl'
    have hN':ep P Γ Pu I l kt gk ks net' ne' xs ho:=hob
    obtain ⟨h1,h2,h3,b0,es,ck,hp,hro,hgb,hlen,hkk,hxx,hh,hdd⟩:=hN'
    unfold Li at hmv
    rw [hp] at hmv;subst hmv
    have hem:em= .ex∨ys≠ []:=by
     cases em with
     |ex=>exact .inl rfl
     |_=>exact .inr fun hc=>by subst hc;cases hn1
    have hho:∀ y n,ho=some (y,n)→y=kx:=fun y n hc=>by subst hc;exact Sh.AX hn2
    have hro':¬ b0<dm:=by omega
    obtain ⟨f1,f2⟩:=Qa h1 hd 0 hlen hkk
    have go:∀ (es':List MapEntry) (ck' i0:Nat),es'.length=(cE ks xs kx ys).length→
      (∀ (i j:Nat) (x y:ks.ty×List ne'.ty),(cE ks xs kx ys)[i]? =some x→(cE ks xs kx ys)[j]? =some y→x.1=y.1→i=j)→
      (∀ (i:Nat) (p:ks.ty×List ne'.ty) (e:MapEntry),(cE ks xs kx ys)[i]? =some p→es'[i]? =some e→mT Pu I gk ks p.1 e.key∧((i=i0∧p=(kx,ys)∧eU lm 0 lm.len e.val)∨(i≠i0∧p.1≠kx∧xs[i]? =some p∧es[i]? =some e)))→
      cK P I t (.map (some b0)) k' v'=some (.skip (I.put b0 (.map es' ck')))→Good P hint sh K r Γ Pu H I (al (cK P I t (.map (some b0)) k' v')):=by
     intro es' ck' i0 q1 q2 q3 hev
     obtain ⟨s1,e1⟩:=hs.Qu (I':=I.put b0 (.map es' ck')) (ck':=ck') (i0:=i0) (x:=kx) hg hl hgm hem hlm hho hp hgb (by rw [IH.ah,if_pos rfl]) (fun b hb=>by rw [IH.ah,if_neg hb]) rfl q1 q2 q3
     rw [hev]
     exact ⟨_,_,_,_,_,_,h,rfl,.undef _,s1,e1⟩
    cases hq:cD ks xs kx with
    |none=>
     have hno:=pJ hq
     have hmp:=(Ab hq ys).1
     refine go (es++ [{ key:=k',val:=v',born:=ck }]) (ck+1) xs.length (by rw [hmp];simp [hlen]) ?_ ?_ ?_
     ·rw [hmp]
      intro i j p q hi hj hpq
      have key:∀ {i:Nat} {p:ks.ty×List ne'.ty},(xs++ [(kx,ys)])[i]? =some p→(i=xs.length∧p=(kx,ys))∨(i≠xs.length∧xs[i]? =some p):=fun {i p} hi=>A9 hi
      rcases key hi with ⟨a1,a2⟩ |⟨a1,a2⟩<;>rcases key hj with ⟨b1,b2⟩ |⟨b1,b2⟩
      ·rw [a1,b1]
      ·have:=hno j q b2
       rw [←hpq,a2,kl h1] at this;cases this
      ·have:=hno i p a2
       rw [hpq,b2,kl h1] at this;cases this
      ·exact h3 i j p q a2 b2 hpq
     ·rw [hmp]
      intro i p e hi he
      rcases A9 hi with ⟨a1,a2⟩ |⟨a1,a2⟩<;>rcases A9 he with ⟨b1,b2⟩ |⟨b1,b2⟩
      ·subst a2 b2
       exact ⟨hd,.inl ⟨a1,rfl,hvv⟩⟩
      ·exact absurd (a1.trans hlen.symm) b1
      ·exact absurd (b1.trans hlen) a1
      ·refine ⟨hkk i p e a2 b2,.inr ⟨a1,fun hc=>?_,a2,b2⟩⟩
       have:=hno i p a2
       rw [hc,kl h1] at this;cases this
     ·simp only [cK,hmt,if_neg hro',hgb,(ei h1 hd).1,if_true,f1 hq]
    |some y0=>
     obtain ⟨j,n,g1,g2,g3⟩:=f2 y0 hq
     obtain ⟨i0,p0,w1,w2,w3,w4,w5⟩:=yO hq
     subst w2
     have:=h3 i0 j _ _ w1 g3 rfl
     subst this
     have hkeq:=EL h1 (hkk i0 _ n g3 g2) hd
     refine go (jM k' v' es i0) ck i0 (by rw [w4,NI,List.length_set];exact hlen) (by rw [w4];exact ym h3 w1) ?_ ?_
     ·rw [w4]
      intro i p e hi he
      rcases tg hi with ⟨a1,a2⟩ |⟨a1,a2⟩<;>rcases N9 he with ⟨b1,e0,b2,b3⟩ |⟨b1,b2⟩
      ·subst a1 a2 b3
       exact ⟨hd,.inl ⟨rfl,rfl,hvv⟩⟩
      ·exact absurd a1 b1
      ·exact absurd b1 a1
      ·exact ⟨hkk i p e a2 b2,.inr ⟨a1,fun hc=>a1 (h3 i i0 _ _ a2 w1 hc),a2,b2⟩⟩
     ·rw [Nat.zero_add] at g1
      simp only [cK,hmt,if_neg hro',hgb,(ei h1 hd).1,if_true,g1,g2,hkeq,(ei h1 hd).2.1]
   ·cases h
  ·cases h
 ·cases h
theorem L3 (hs:ar P hint sh Γ Pu H I) {t:TypeId} {n:Option TV} {n':Option Value} (h:B1 P sh H t n K=some r) (hn:dv Γ Pu I n n'):Good P hint sh K r Γ Pu H I (al (aZ P I t n')):=by
 unfold B1 at h
 split at h
 ·rename_i kt e hm
  split at h
  ·rename_i net _
   split at h
   ·rename_i ks ne gk _ _ _
    replace h:=ad h;obtain ⟨hb,h⟩:=h
    replace hb:=Go.Gv.and_true hb;obtain ⟨hb,hne⟩:=hb
    replace hb:=Go.Gv.and_true hb;obtain ⟨hb,hko⟩:=hb
    obtain ⟨s1,e1⟩:=hs.new (.cz kt gk ks net ne [] none) (.map [] 0) ⟨some (I.n,0),0,0,0⟩ 0 rfl
     ⟨hko,Nat.le_of_ble_eq_true hne,(fun i j x y hx=>by simp at hx),I.n,[],0,rfl,hs.ro,by rw [IH.aw,if_pos rfl],rfl,(fun i x n hx=>by simp at hx),(fun i x n hx=>by simp at hx),(fun y m hc=>by cases hc),(fun i j b ⟨x,_,_,_,_,_,hx,_⟩=>by simp at hx)⟩ (hh:=fun b ⟨i,x,_,_,_,_,_,hx,_⟩=>by simp at hx)
    have hgr:GR (Γ.up H.n ⟨some (I.n,0),0,0,0⟩) Pu (I.new (.map [] 0)) (.mp H.n) (.map (some I.n)):= .mp (l:=⟨some (I.n,0),0,0,0⟩) (by simp [bb.up]) rfl
    have hev:aZ P I t n'=some (.val (.map (some I.n)) (I.new (.map [] 0))):=by
     have hu:P.underlying t=some (.map kt e):=by
      unfold gK at hm
      split at hm
      ·rename_i hu;cases hm;exact hu
      ·cases hm
     cases n with
     |none=>cases n' with
      |none=>rfl
      |some _=>cases hn
     |some n=>cases n' with
      |none=>cases hn
      |some v=>
       cases n with
       |int k m=>
        have hn':GR Γ Pu I (.int k m) v:=by cases hn;assumption
        cases hn'
        simp only [aZ,hu]
       |_=>cases hb
    rw [hev]
    exact ⟨_,_,_,_,_,_,h,rfl,hgr,s1,e1⟩
   ·cases h
  ·cases h
 ·cases h
theorem AU (hs:ar P hint sh Γ Pu H I) {t:TypeId} {n:Option TV} {n':Option Value} (h:iI P sh H t n K=some r) (hn:dv Γ Pu I n n'):Good P hint sh K r Γ Pu H I (al (aZ P I t n')):=by
 unfold iI at h
 cases hb:O9 t sh.S4 with
 |true=>rw [hb] at h;exact L3 hs h hn
 |false=>rw [hb] at h;exact CB hs h hn
theorem qM (hs:ar P hint sh Γ Pu H I) {t:TypeId} {m k v:TV} {m' k' v':Value} (h:oN dF P H t m k v K=some r) (hm:GR Γ Pu I m m') (hk:GR Γ Pu I k k') (hv:GR Γ Pu I v v'):Good P hint sh K r Γ Pu H I (al (cK P I t m' k' v')):=by
 unfold oN at h
 split at h
 ·rename_i id hq
  unfold Bm at hq
  split at hq
  ·split at hq
   ·cases hq;exact JG hs h hm hk hv
   ·cases hq
  ·cases hq
 ·exact Hl hs h hm hk hv
theorem DJ (hs:ar P hint sh Γ Pu H I) {t:TypeId} {x k:TV} {x' k':Value} {ok:Bool} (h:vc P sh H t x k ok K=some r) (hx:GR Γ Pu I x x') (hk:GR Γ Pu I k k'):Good P hint sh K r Γ Pu H I (al (bH P I t x' k' ok)):=by
 unfold vc at h
 split at h
 ·rename_i id hq
  unfold Bm at hq
  split at hq
  ·split at hq
   ·cases hq
    cases ok with
    |true=>cases h
    |false=>
     obtain ⟨s1,e1⟩:=yF hs id
     have kk:=e1.cQ hs
     obtain ⟨t2,H2,Γ2,Pu2,v2,I2,c1,c2,c3,c4,c5⟩:=Np s1 h (hx.mono kk) (hk.mono kk)
     exact ⟨t2,H2,Γ2,Pu2,v2,I2,c1,c2,c3,c4,Ex.trans hs s1 e1 c5⟩
   ·cases hq
  ·cases hq
 ·exact Hx hs h hx hk
end
end Go.Gv
