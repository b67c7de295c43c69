/- A new object in a block that was kept for it: what stands in a region that draws its order. -/
import Derived.Test.YtdelfjdjenlaiaaGreatDoorGvRun
import Derived.Test.YtdelfjdjenlaiaaGreatDoorIvPureX
set_option linter.unusedSimpArgs false
set_option linter.unusedVariables false
namespace Go.Gv
open Go Go.Iv
section
variable {β:Type} {P:Program} {hint:Hint} {sh:cA} {Γ Γ1:bc} {Pu Pu1:Nat->Prop} {H H1:GH} {I I1 I2:IH} {r:β} {K:TV->GH->Option β}
theorem Ex.wk {O O':Nat->Prop} (h:Ex O Γ Pu H I Γ1 Pu1 H1 I1) (ho:∀ b,O b->O' b):Ex O' Γ Pu H I Γ1 Pu1 H1 I1:=
 ⟨h.g,h.hn,h.n,h.p,fun b hb hn=>h.cI b hb fun x=>hn (ho b x),fun b hb x=>ho b (h.own b hb x),fun b hb x=>(h.pn b hb x).imp id (ho b),h.ck,h.yW,h.jv⟩
theorem vm (hs:aw P hint sh Γ Pu H I) {k:Nat} (hk0:I.get k=none) (l0:Loc) (io:bA):cH Γ Pu I (Γ.up H.n l0) Pu (I.put k io):=
 ⟨fun _ _ h=>bc.dG hs h,fun _ h=>h,fun b hb=>by
  rw [IH.ah,if_neg];rintro rfl;obtain ⟨cs,et,fz,ex,sd,hg⟩:=hs.pu b hb;rw [hk0] at hg;cases hg⟩
theorem aw.newAt (hs:aw P hint sh Γ Pu H I) {k:Nat} (hk0:I.get k=none) (hkn:k<I.n) (o:bL) (io:bA) (l:Loc) (x:Nat) (hp:l.pos=some (k,x)) (ho:OR P hint (Γ.up H.n l) Pu (I.put k io) l o) (hh:∀ b,¬ o.has (I.put k io) l b:=by intro b h;exact h):
  aw P hint sh (Γ.up H.n l) Pu (H.new o) (I.put k io)/\Ex (fun b=>bx Γ H I b∨b=k) Γ Pu H I (Γ.up H.n l) Pu (H.new o) (I.put k io):=by
 have hk:=vm hs hk0 l io;have upn:Γ.up H.n l H.n=some l:=by simp [bc.up]
 have getold:∀ b,b≠k->(I.put k io).get b=I.get b:=fun b hb=>by rw [IH.ah,if_neg hb]
 have ownne:∀ b,bx Γ H I b->b≠k:=fun b hb e=>by
  obtain ⟨o,ho⟩:=hs.xD hb;rw [e,hk0] at ho;cases ho
 have ato:∀ id o' l' b,H.get id=some o'->o'.dh=true->Γ id=some l'->At (I.put k io) l' o' b->At I l' o' b:=fun id o' l' b hg hm hl hat=>
  hat.congr fun b y hp'=>getold b (ownne b (.pos hg hm hl hp'))
 have atn:∀ b,At (I.put k io) l o b->b=k:=fun b h=>by
  rcases h with ⟨y,h⟩ |h
  ·rw [hp] at h;cases h;rfl
  ·exact absurd h (hh b)
 have ownI:∀ b,bx (Γ.up H.n l) (H.new o) (I.put k io) b->bx Γ H I b∨b=k:=by
  rintro b ⟨id,o',l',hg,hm',hl',hat⟩;rw [GH.az] at hg;split at hg
  ·rename_i h;subst h;rw [upn] at hl';cases hl';cases hg;exact .inr (atn b hat)
  ·rename_i h;unfold bc.up at hl';rw [if_neg h] at hl';exact .inl ⟨id,o',l',hg,hm',hl',ato _ _ _ _ hg hm' hl' hat⟩
 refine ⟨⟨?_,?_,?_,?_,?_,?_,?_,?_,?_,?_,hs.oE hk.p hk.i⟩,⟨fun _ _ h=>bc.dG hs h,Nat.le_succ _,zai _,fun _ h=>h,fun b _ hb=>getold b fun e=>hb (.inr e),fun b _ h=>ownI b h,fun b _ h=> .inl h,Nat.le_succ _,?_,?_⟩⟩
 ·intro id o' hg
  rw [GH.az] at hg;split at hg
  ·rename_i h;subst h;cases hg;exact ⟨l,upn,ho⟩
  ·obtain ⟨l',hl',_⟩:=hs.obj id o' hg
   refine ⟨l',bc.dG hs hl',hs.dR hk hg hl' fun hm' b hat=>getold b (ownne b ⟨id,o',l',hg,hm',hl',hat⟩)⟩
 ·intro id id' o1 o2 l1 l2 b hg hg' hm1 hm2 hl1 hl2 hp1 hp2
  rw [GH.az] at hg hg';unfold bc.up at hl1 hl2;split at hg<;>split at hg'
  ·rename_i h h';rw [h,h']
  ·rename_i h h'
   rw [if_pos h] at hl1;rw [if_neg h'] at hl2;cases hl1;cases hg;exact absurd (atn b hp1) (ownne _ ⟨id',o2,l2,hg',hm2,hl2,ato _ _ _ _ hg' hm2 hl2 hp2⟩)
  ·rename_i h h'
   rw [if_neg h] at hl1;rw [if_pos h'] at hl2;cases hl2;cases hg';exact absurd (atn b hp2) (ownne _ ⟨id,o1,l1,hg,hm1,hl1,ato _ _ _ _ hg hm1 hl1 hp1⟩)
  ·rename_i h h'
   rw [if_neg h] at hl1;rw [if_neg h'] at hl2;exact hs.inj id id' o1 o2 l1 l2 b hg hg' hm1 hm2 hl1 hl2 (ato _ _ _ _ hg hm1 hl1 hp1) (ato _ _ _ _ hg' hm2 hl2 hp2)
 ·intro b hb hpu
  rcases ownI b hb with h |h
  ·exact hs.sep b h hpu
  ·obtain ⟨cs,et,fz,ex,sd,hg⟩:=hs.pu b hpu
   rw [h,hk0] at hg;cases hg
 ·intro id l' h
  unfold bc.up at h
  show id<H.n+1
  split at h
  ·omega
  ·have:=hs.bj id l' h;omega
 ·intro b hb
  have hb':I.n<=b:=hb;rw [getold b (by omega)];exact hs.fresh b hb'
 ·intro b hb
  obtain ⟨cs,et,fz,ex,sd,hg⟩:=hs.pu b hb;exact ⟨cs,et,fz,ex,sd,(hk.i b hb).trans hg⟩
 ·exact hs.ro
 ·exact Nat.le_succ_of_le hs.gn
 ·intro g hg
  obtain ⟨l',h1,h2⟩:=hs.cE g hg;exact ⟨l',bc.dG hs h1,h2⟩
 ·intro id s h
  rw [GH.dT] at h
  show s<H.ck+1
  split at h
  ·cases h;omega
  ·have:=hs.st id s h;omega
 ·intro id hid
  rw [GH.dT,if_neg (by omega)];exact .inr (.inl rfl)
 ·intro id l' b x' s h1 h2 hl' hp'
  exact hs.eC hk h1 hl' hp' fun o' hg hm=>getold b (ownne b (.pos hg hm hl' hp'))
theorem Bi (hs:aw P hint sh Γ Pu H I) {k:Nat} (hk0:I.get k=none) (hkn:k<I.n) (hkr:dO<=k) {e:TypeId} {sp:Sh} {ys:List sp.ty} {cs:List Value} (hsz:0<sp.sz) (hlen:cs.length=ys.length*sp.sz) (hrow:Row Pu I sp ys cs 0) (w:Bool) (em:Em) (f:Nat) (hf:f<=ys.length*sp.sz) (hfw:w=true->f=0) (hem:em= .ex->ys≠ []) (cap:Nat) (hcap:iY cap sp.sz ys.length 0 cs.length) (ex:Bool):
  aw P hint sh (Γ.up H.n ⟨some (k,0),ys.length,sp.sz,cs.length⟩) Pu (H.new (.arr e sp ys w false em)) (I.put k (.cells cs e f ex false))/\
   Ex (fun b=>bx Γ H I b∨b=k) Γ Pu H I (Γ.up H.n ⟨some (k,0),ys.length,sp.sz,cs.length⟩) Pu (H.new (.arr e sp ys w false em)) (I.put k (.cells cs e f ex false))/\
   GR (Γ.up H.n ⟨some (k,0),ys.length,sp.sz,cs.length⟩) Pu (I.put k (.cells cs e f ex false)) (.all H.n) (.slice (some ⟨k,0,none⟩) ys.length cap):=by
 have hk:=vm hs hk0 ⟨some (k,0),ys.length,sp.sz,cs.length⟩ (.cells cs e f ex false)
 obtain ⟨s1,e1⟩:=hs.newAt hk0 hkn (.arr e sp ys w false em) (.cells cs e f ex false) ⟨some (k,0),ys.length,sp.sz,cs.length⟩ 0 rfl
  ⟨rfl,rfl,hsz,.inr ⟨k,0,cs,f,ex,false,rfl,hem,by rw [IH.ah,if_pos rfl],rfl,by omega,fun i x hi=>(hrow i x hi).mono hk.p hk.i,fun _=>⟨hkr,rfl,by omega,fun h=>by rw [hfw h];exact zai _⟩,fun h=>by cases h⟩⟩
 refine ⟨s1,e1,.all (l:=⟨some (k,0),ys.length,sp.sz,cs.length⟩) (by simp [bc.up]) ?_⟩;exact ⟨cap,by simp,by simpa using hcap⟩
def wq (P:Program) (hint:Hint) (sh:cA) (K:TV->GH->Option β) (r:β) (Γ:bc) (Pu:Nat->Prop) (H:GH) (I:IH) (k:Nat) (run:IH->Option ag):Prop:=
 ∃ t H1 Γ1 Pu1 v ob,K t H1=some r/\(∀ I2:IH,I2.n=k->run I2=some (.val v (I2.new ob)))/\GR Γ1 Pu1 (I.put k ob) t v/\aw P hint sh Γ1 Pu1 H1 (I.put k ob)/\Ex (fun b=>bx Γ H I b∨b=k) Γ Pu H I Γ1 Pu1 H1 (I.put k ob)
theorem mL {sh:cA} (hs:aw P hint sh Γ Pu H I) {k:Nat} (hk0:I.get k=none) (hkn:k<I.n) (hkr:dO<=k) {t:TypeId} {len:Nat} {ps:List (Nat×TV)} {ps':List (Nat×Value)} (h:fm P sh H t len ps K=some r) (hp:HF Γ Pu I ps ps'):
  wq P hint sh K r Γ Pu H I k fun I2=>aW P I2 t len ps':=by
 unfold fm at h;split at h
 ·rename_i e i he
  replace h:=ae h;obtain ⟨hb,h⟩:=h;replace hb:=af hb;obtain ⟨hb1,hb2⟩:=hb;split at h
  ·rename_i z s hz hsh
   replace h:=ae h;obtain ⟨hc,h⟩:=h;replace hc:=af hc;obtain ⟨hc,hc3⟩:=hc;replace hc:=af hc;obtain ⟨hc1,hc2⟩:=hc;have k1:=beq_true hc1;have k3:=beq_true hc3;split at h
   ·rename_i cells hf
    obtain ⟨vs',hf',hr'⟩:=iB (vs:=⟨dx z.cells.toList len⟩) hf hb2 hp (qn (dj hc2) len);split at h
    ·rename_i cells' H1 hpl
     obtain ⟨Pu1,s1,e1,r1⟩:=gB hs hpl hr';split at h
     ·rename_i xs hx
      obtain ⟨a1,a2,a3⟩:=mV hx r1;have hsz:=s.dU;have a2':vs'.toList.length=xs.length*s.sz:=by rw [a1];exact a2
      have hlu:len<eE:=by
       have:=aB hb1;have h2:len<=len*(i.size+1):=Nat.le_mul_of_pos_right _ (by omega);unfold eE;have:(2:Nat)^24<2^64:=by decide
       omega
      obtain ⟨s2,e2,r2⟩:=Bi s1 hk0 hkn hkr (e:=e) (ys:=xs) (cs:=vs'.toList) hsz a2' a3 true false 0 (Nat.zero_le _) (fun _=>rfl) (fun h=>by cases h) len
       (.inr ⟨hlu,by omega,by rw [a2];omega⟩) true
      rw [a1] at r2 s2 e2;refine ⟨_,_,_,_,_,_,h,fun I2 hn=>?_,r2,s2,Ex.lT hs (e1.wk fun _ h=> .inl h) e2 fun b hb hO=>?_⟩
      ·simp only [aW,he,hz]
       rw [if_pos (by simp [hp.ok hb2];exact aB hb1),if_pos k1,hf',hn];rfl
      ·rcases hO with h1 |h1
       ·exact .inl (e1.own b hb h1)
       ·exact .inr h1
     ·cases h
    ·cases h
   ·cases h
  ·cases h
 ·cases h
theorem vW (hs:aw P hint sh Γ Pu H I) {k:Nat} (hk0:I.get k=none) (hkn:k<I.n) (hkr:dO<=k) {e net:TypeId} {s ne:Sh} {no:Nat} {xs:List s.ty} {cs:List Value} (hok:HW s no ne=true) (hlen:cs.length=xs.length*s.sz) (hrow:Row Pu I s xs cs 0)
  (hnil:∀ i x,xs[i]? =some x->aY s no ne x= []/\cs[i*s.sz+no]? =some (.slice none 0 0)) (cap:Nat) (hcap:iY cap s.sz xs.length 0 cs.length):
  aw P hint sh (Γ.up H.n ⟨some (k,0),xs.length,s.sz,cs.length⟩) Pu (H.new (.nest e s no net ne xs .no none)) (I.put k (.cells cs e 0 true false))/\
   Ex (fun b=>bx Γ H I b∨b=k) Γ Pu H I (Γ.up H.n ⟨some (k,0),xs.length,s.sz,cs.length⟩) Pu (H.new (.nest e s no net ne xs .no none)) (I.put k (.cells cs e 0 true false))/\
   GR (Γ.up H.n ⟨some (k,0),xs.length,s.sz,cs.length⟩) Pu (I.put k (.cells cs e 0 true false)) (.all H.n) (.slice (some ⟨k,0,none⟩) xs.length cap):=by
 have hk:=vm hs hk0 ⟨some (k,0),xs.length,s.sz,cs.length⟩ (.cells cs e 0 true false);have hnb:∀ b i,¬ NB (I.put k (.cells cs e 0 true false)) ⟨some (k,0),xs.length,s.sz,cs.length⟩ s.sz no none b i:=by
  rintro b i ⟨_,n2,b2,o2,vs2,et2,f2,ex2,sd2,hp2,hg2,hv2⟩;cases hp2;rw [IH.ah,if_pos rfl] at hg2;cases hg2;rw [Nat.zero_add,(hnil i _ (zaj n2)).2] at hv2;cases hv2
 obtain ⟨s1,e1⟩:=hs.newAt hk0 hkn (.nest e s no net ne xs .no none) (.cells cs e 0 true false) ⟨some (k,0),xs.length,s.sz,cs.length⟩ 0 rfl
  ⟨rfl,rfl,s.dU,hok,.inr ⟨k,0,cs,0,true,rfl,(fun h=>by cases h),by rw [IH.ah,if_pos rfl],rfl,by omega,hkr,zai _,
   fun i x hi=>by
    have h1:=(hrow i x hi).de (Γ:=Γ);have h2:=h1.set no (GR.undef (Γ:=Γ) (Pu:=Pu) (I:=I) ((cs.drop (0+i*s.sz)).take s.sz)[no]!);have:((cs.drop (0+i*s.sz)).take s.sz).set no ((cs.drop (0+i*s.sz)).take s.sz)[no]! =(cs.drop (0+i*s.sz)).take s.sz:=by
     have hl:=h1.length;rw [jf] at hl;have hlt:=(eJ hok).1;apply iT;rw [zaj (by omega),getElem!_pos _ _ (by omega)]
    rw [this] at h2;exact h2.mono hk,
   fun i x v hi _ hv=>by
    obtain ⟨a1,a2⟩:=hnil i x hi;rw [Nat.zero_add,a2] at hv;cases hv;exact ⟨⟨none,0,ne.sz,0⟩,⟨by rw [a1];rfl,rfl,ne.dU,.inl ⟨rfl,a1,by simp⟩⟩,rfl,rfl⟩,
   (fun _ _ _ h=>by cases h),fun i j b n1 _=>absurd n1 (hnb b i),fun i n1=>hnb _ i n1⟩⟩
  (fun b ⟨i,hi⟩=>hnb b i hi)
 refine ⟨s1,e1,.all (l:=⟨some (k,0),xs.length,s.sz,cs.length⟩) (by simp [bc.up]) ?_⟩;exact ⟨cap,by simp,by simpa using hcap⟩
theorem uv {sh:cA} (hs:aw P hint sh Γ Pu H I) {k:Nat} (hk0:I.get k=none) (hkn:k<I.n) (hkr:dO<=k) {t:TypeId} {len:Nat} {ps:List (Nat×TV)} {ps':List (Nat×Value)} (h:fD P sh H t len ps K=some r) (hp:HF Γ Pu I ps ps'):wq P hint sh K r Γ Pu H I k fun I2=>aW P I2 t len ps':=by
 unfold fD at h;split at h
 ·exact mL hs hk0 hkn hkr h hp
 ·rename_i no net _
  split at h
  ·rename_i e i he
   by_cases hz:(Nat.beq len 0 &&(AH sh.gZ (e+1000000)).isSome ||Q4 no ps)=true
   ·rw [hz,zac] at h
    exact mL hs hk0 hkn hkr h hp
   rw [eq_false_of_ne_true hz,zab] at h;replace h:=ae h;obtain ⟨hb,h⟩:=h;replace hb:=af hb;obtain ⟨hb1,hb2⟩:=hb;split at h
   ·rename_i z s ne hz hsh hne
    replace h:=ae h;obtain ⟨hc,h⟩:=h;replace hc:=af hc;obtain ⟨hc,hok⟩:=hc;replace hc:=af hc;obtain ⟨hc,hc3⟩:=hc;replace hc:=af hc;obtain ⟨hc1,hc2⟩:=hc;have k1:=beq_true hc1;have k3:=beq_true hc3;split at h
    ·rename_i cells hf
     obtain ⟨vs',hf',hr'⟩:=iB (vs:=⟨dx z.cells.toList len⟩) hf hb2 hp (qn (dj hc2) len);split at h
     ·rename_i cells' H1 hpl
      obtain ⟨Pu1,s1,e1,r1⟩:=gB hs hpl hr';split at h
      ·rename_i xs hx
       replace h:=ae h;obtain ⟨hn,h⟩:=h;replace hn:=af hn;obtain ⟨hn1,hn2⟩:=hn;obtain ⟨a1,a2,a3⟩:=mV hx r1;have hsz:=s.dU;have a2':vs'.toList.length=xs.length*s.sz:=by rw [a1];exact a2
       have hlu:len<eE:=by
        have:=aB hb1;have h2:len<=len*(i.size+1):=Nat.le_mul_of_pos_right _ (by omega);unfold eE;have:(2:Nat)^24<2^64:=by decide
        omega
       obtain ⟨s2,e2,r2⟩:=vW s1 hk0 hkn hkr (e:=e) (net:=net) (xs:=xs) (cs:=vs'.toList) hok a2' a3
        (fun j x hj=>by
         refine ⟨List.isEmpty_iff.1 ?_,AQ hn2 r1 j (by rw [←a1];exact (List.getElem?_eq_some_iff.1 hj).1)⟩;rw [List.all_eq_true] at hn1;exact hn1 x (List.mem_of_getElem? hj))
        len (.inr ⟨hlu,by omega,by rw [a2];omega⟩)
       rw [a1] at r2 s2 e2;refine ⟨_,_,_,_,_,_,h,fun I2 hn=>?_,r2,s2,Ex.lT hs (e1.wk fun _ h=> .inl h) e2 fun b hb hO=>?_⟩
       ·simp only [aW,he,hz]
        rw [if_pos (by simp [hp.ok hb2];exact aB hb1),if_pos k1,hf',hn];rfl
       ·rcases hO with h1 |h1
        ·exact .inl (e1.own b hb h1)
        ·exact .inr h1
      ·cases h
     ·cases h
    ·cases h
   ·cases h
  ·cases h
theorem zF {sh:cA} (hs:aw P hint sh Γ Pu H I) {k:Nat} (hk0:I.get k=none) (hkn:k<I.n) (hkr:dO<=k) {t:TypeId} {eq:Bool} {l c:TV} {l' c':Value} (h:iQ dW P sh H t eq l c K=some r) (hl:GR Γ Pu I l l') (hc:GR Γ Pu I c c') (heq:eq=true->l=c):wq P hint sh K r Γ Pu H I k fun I2=>bg P I2 t l' c':=by
 unfold iQ at h;split at h
 ·rename_i e i l c he
  cases hl;cases hc;split at h
  ·rename_i z s hz hsh
   replace h:=ae h;obtain ⟨hb,h⟩:=h;replace hb:=af hb;obtain ⟨hb,hb3⟩:=hb;replace hb:=af hb;obtain ⟨hb1,hb2⟩:=hb;have k1:=beq_true hb1;have k3:=beq_true hb3;split at h
   ·rename_i zz hzz
    replace h:=aE h;obtain ⟨hn,h⟩:=h;replace hn:=af hn;obtain ⟨hn,hn3⟩:=hn;replace hn:=af hn;obtain ⟨hn1,hn2⟩:=hn;have n1:=bh hn1;have n2:=bh hn2;have n3:=bh hn3;have henc:=Sh.eg hzz (dj (Γ:=Γ) (Pu:=Pu) (I:=I) hb2);obtain ⟨q1,q2⟩:=pD henc c.toNat;have hsz:=s.dU;have hcu:c.toNat<eE:=by
     have:c<=c*((i.bytes:Int)+1):=by
      have h0:0<=c:=by omega
      have:c*1<=c*((i.bytes:Int)+1):=Int.mul_le_mul_of_nonneg_left (by omega) h0;omega
     unfold eE;have h1:(roomy:Int)<2^64:=by unfold roomy;decide
     have h2:(2:Int)^64=((2^64:Nat):Int):=by decide
     omega
    obtain ⟨s2,e2,r2⟩:=Bi hs hk0 hkn hkr (e:=e) (ys:=List.replicate c.toNat zz) (cs:=dx z.cells.toList c.toNat) hsz (by rw [List.length_replicate];exact q1) q2 true .no 0 (Nat.zero_le _) (fun _=>rfl) (fun h=>by cases h) c.toNat
     (.inr ⟨hcu,by simp,by rw [q1];omega⟩) true
    have hev:∀ I2:IH,I2.n=k->bg P I2 t (.int .i64 l) (.int .i64 c)=some (.val (.slice (some ⟨k,0,none⟩) l.toNat c.toNat) (I2.new (.cells (dx z.cells.toList c.toNat) e 0 true false))):=by
     intro I2 hn;simp only [bg,he,hz];rw [if_pos (by simp [n1,n2];exact n3),if_pos k1,hn];rfl
    have hlc:l.toNat<=c.toNat:=by omega
    cases eq with
    |true=>
     have:=heq rfl;cases this;rw [List.length_replicate] at r2 s2 e2;exact ⟨_,_,_,_,_,_,h,hev,r2,s2,e2⟩
    |false=>
     refine ⟨_,_,_,_,_,_,h,hev,.own (l:=⟨some (k,0),(List.replicate c.toNat zz).length,s.sz,(dx z.cells.toList c.toNat).length⟩) (by simp [bc.up]) (by simp;omega) ?_,s2,e2⟩;exact ⟨c.toNat,by simp,.inr ⟨hcu,hlc,by rw [q1];simp⟩⟩
   ·cases h
  ·cases h
 ·cases h
theorem yv {sh:cA} (hs:aw P hint sh Γ Pu H I) {k:Nat} (hk0:I.get k=none) (hkn:k<I.n) (hkr:dO<=k) {t:TypeId} {eq:Bool} {l c:TV} {l' c':Value} (h:gK dW P sh H t eq l c K=some r) (hl:GR Γ Pu I l l') (hc:GR Γ Pu I c c') (heq:eq=true->l=c):wq P hint sh K r Γ Pu H I k fun I2=>bg P I2 t l' c':=by
 unfold gK at h;split at h
 ·exact zF hs hk0 hkn hkr h hl hc heq
 ·rename_i no net _
  split at h
  ·rename_i e i l c he
   cases hl;cases hc;split at h
   ·rename_i z s ne hz hsh hne
    replace h:=ae h;obtain ⟨hb,h⟩:=h;replace hb:=af hb;obtain ⟨hb,hb5⟩:=hb;replace hb:=af hb;obtain ⟨hb,hok⟩:=hb;replace hb:=af hb;obtain ⟨hb,hb3⟩:=hb;replace hb:=af hb;obtain ⟨hb1,hb2⟩:=hb;have k1:=beq_true hb1;have k3:=beq_true hb3;split at h
    ·rename_i zz hzz
     replace h:=ae h;obtain ⟨hz0,h⟩:=h;replace hz0:=af hz0;obtain ⟨hz1,hz2⟩:=hz0;replace h:=aE h;obtain ⟨hn,h⟩:=h;replace hn:=af hn;obtain ⟨hn,hn3⟩:=hn;replace hn:=af hn;obtain ⟨hn1,hn2⟩:=hn;have n1:=bh hn1;have n2:=bh hn2;have n3:=bh hn3;have hzr:=dj (Γ:=Γ) (Pu:=Pu) (I:=I) hb2;have henc:=Sh.eg hzz hzr;obtain ⟨q1,q2⟩:=pD henc c.toNat;have hsz:=s.dU;have hcu:c.toNat<eE:=by
      have:c<=c*((i.bytes:Int)+1):=by
       have h0:0<=c:=by omega
       have:c*1<=c*((i.bytes:Int)+1):=Int.mul_le_mul_of_nonneg_left (by omega) h0;omega
      unfold eE;have h1:(roomy:Int)<2^64:=by unfold roomy;decide
      have h2:(2:Int)^64=((2^64:Nat):Int):=by decide
      omega
     have hzl:z.cells.toList.length=s.sz:=henc.len
     obtain ⟨s2,e2,r2⟩:=vW hs hk0 hkn hkr (e:=e) (net:=net) (xs:=List.replicate c.toNat zz) (cs:=dx z.cells.toList c.toNat) hok (by rw [List.length_replicate];exact q1) q2
      (fun j x hx=>by
       rw [List.getElem?_replicate] at hx;split at hx
       ·rename_i hj
        cases hx;refine ⟨List.isEmpty_iff.1 hz1,?_⟩;rw [←hzl,Hr hj (by rw [hzl];exact (eJ hok).1)];exact ry hz2 hzr
       ·cases hx)
      c.toNat (.inr ⟨hcu,by simp,by rw [q1];omega⟩)
     have hev:∀ I2:IH,I2.n=k->bg P I2 t (.int .i64 l) (.int .i64 c)=some (.val (.slice (some ⟨k,0,none⟩) l.toNat c.toNat) (I2.new (.cells (dx z.cells.toList c.toNat) e 0 true false))):=by
      intro I2 hn;simp only [bg,he,hz];rw [if_pos (by simp [n1,n2];exact n3),if_pos k1,hn];rfl
     have:=heq hb5;cases this;rw [List.length_replicate] at r2 s2 e2;exact ⟨_,_,_,_,_,_,h,hev,r2,s2,e2⟩
    ·cases h
   ·cases h
  ·cases h
theorem MC {sh:cA} (hs:aw P hint sh Γ Pu H I) {k:Nat} (hk0:I.get k=none) (hkn:k<I.n) (hkr:dO<=k) {e:TypeId} (h:v8 P H e K=some r):
  wq P hint sh K r Γ Pu H I k fun I2=>fC P I2 e:=by
 unfold v8 at h;split at h
 ·rename_i z hz
  replace h:=ae h;obtain ⟨hb,h⟩:=h
  obtain ⟨s1,e1⟩:=hs.newAt hk0 hkn (.cells e (z.cells.toList.map ja) true) (.cells z.cells.toList e 0 true false) ⟨some (k,0),0,0,0⟩ 0 rfl
   ⟨k,z.cells.toList,0,true,false,rfl,by rw [IH.ah,if_pos rfl],(dj hb).mono (vm hs hk0 _ _),fun _=>⟨hkr,rfl,rfl,rfl⟩,fun h=>by cases h⟩
  refine ⟨_,_,_,_,_,_,h,fun I2 hn=>?_,.ptr (l:=⟨some (k,0),0,0,0⟩) (by simp [bc.up]) rfl,s1,e1⟩;simp only [fC,hz];rw [hn];rfl
 ·cases h
theorem Gy {sh:cA} (hs:aw P hint sh Γ Pu H I) {k:Nat} (hk0:I.get k=none) (hkn:k<I.n) (hkr:dO<=k) {t:TypeId} {n:Option TV} {n':Option Value} (h:mH P sh H t n K=some r) (hn:eh Γ Pu I n n'):
  ∃ t1 H1 Γ1 Pu1 v ob,K t1 H1=some r/\(∀ I2:IH,I2.n=k->cj P I2 t n'=some (.val v (I2.new ob)))/\GR Γ1 Pu1 (I.put k ob) t1 v/\aw P hint sh Γ1 Pu1 H1 (I.put k ob)/\Ex (fun b=>bx Γ H I b∨b=k) Γ Pu H I Γ1 Pu1 H1 (I.put k ob)/\∃ l,Γ1 H.n=some l/\l.pos=some (k,0):=by
 unfold mH at h;split at h
 ·rename_i kt e hm
  split at h
  ·rename_i ks es gk ge _ _ _ _
   replace h:=ae h;obtain ⟨hb,h⟩:=h;replace hb:=af hb;obtain ⟨hb,hko⟩:=hb
   obtain ⟨s1,e1⟩:=hs.newAt hk0 hkn (.map kt gk ge ks es [] false) (.map [] 0) ⟨some (k,0),0,0,0⟩ 0 rfl
    ⟨hko,.inr ⟨k,[],0,rfl,hkr,(fun h=>by cases h),by rw [IH.ah,if_pos rfl],rfl⟩⟩
   have hgr:GR (Γ.up H.n ⟨some (k,0),0,0,0⟩) Pu (I.put k (.map [] 0)) (.mp H.n) (.map (some k)):= .mp (l:=⟨some (k,0),0,0,0⟩) (by simp [bc.up]) rfl;have hev:∀ I2:IH,I2.n=k->cj P I2 t n'=some (.val (.map (some k)) (I2.new (.map [] 0))):=by
    intro I2 hk;have hu:P.underlying t=some (.map kt e):=by
     unfold pJ at hm;split at hm
     ·rename_i hu;cases hm;exact hu
     ·cases hm
    cases n with
    |none=>cases n' with
     |none=>rw [←hk];simp only [cj,hu]
     |some _=>cases hn
    |some n=>cases n' with
     |none=>cases hn
     |some v=>
      cases n with
      |int k' m=>
       have hn':GR Γ Pu I (.int k' m) v:=by cases hn;assumption
       cases hn';rw [←hk];simp only [cj,hu]
      |_=>cases hb
   exact ⟨_,_,_,_,_,_,h,hev,hgr,s1,e1,⟨some (k,0),0,0,0⟩,by simp [bc.up],rfl⟩
  ·cases h
 ·cases h
theorem BV {sh:cA} (hs:aw P hint sh Γ Pu H I) {k:Nat} (hk0:I.get k=none) (hkn:k<I.n) (hkr:dO<=k) {t:TypeId} {n:Option TV} {n':Option Value} (h:sw P sh H t n K=some r) (hn:eh Γ Pu I n n'):
  ∃ t1 H1 Γ1 Pu1 v ob,K t1 H1=some r/\(∀ I2:IH,I2.n=k->cj P I2 t n'=some (.val v (I2.new ob)))/\GR Γ1 Pu1 (I.put k ob) t1 v/\aw P hint sh Γ1 Pu1 H1 (I.put k ob)/\Ex (fun b=>bx Γ H I b∨b=k) Γ Pu H I Γ1 Pu1 H1 (I.put k ob)/\∃ l,Γ1 H.n=some l/\l.pos=some (k,0):=Gy hs hk0 hkn hkr h hn
end
end Go.Gv
