/- A new object in a block that was kept for it: what stands in a region that draws its order. -/
import Derived.Test.YteknbnkjelmfaaaGreatDoorIvPureX
set_option linter.unusedSimpArgs false
set_option linter.unusedVariables false
namespace Go.Gv
open Go Go.Iv
section
variable {Z:Type} {P:Program} {hint:Hint} {sh:bU} {Γ Γ1:aN} {Pu Pu1:Nat->Prop} {H H1:GH} {I I1 I2:IH} {r:Z} {K:TV->GH->Option Z}
theorem Ex.wk {O O':Nat->Prop} (h:Ex O Γ Pu H I Γ1 Pu1 H1 I1) (ho:∀ b,O b->O' b):Ex O' Γ Pu H I Γ1 Pu1 H1 I1:=
 ⟨h.g,h.hn,h.n,h.p,fun b hb hn=>h.cE b hb fun x=>hn (ho b x),fun b hb x=>ho b (h.own b hb x),fun b hb x=>(h.pn b hb x).imp id (ho b),h.ck,h.wx,h.jv⟩
theorem zk (hs:au P hint sh Γ Pu H I) {k:Nat} (hk0:I.get k=none) (l0:Loc) (io:bN):cp Γ Pu I (Γ.up H.n l0) Pu (I.put k io):=
 ⟨fun _ _ h=>aN.dm hs h,fun _ h=>h,fun b hb=>by
  rw [IH.ag,if_neg];rintro rfl;obtain ⟨cs,et,fz,ex,sd,hg⟩:=hs.pu b hb
  grind⟩
theorem au.newAt (hs:au P hint sh Γ Pu H I) {k:Nat} (hk0:I.get k=none) (hkn:k<I.n) (o:bu) (io:bN) (l:Loc) (x:Nat) (hp:l.pos=some (k,x)) (ho:OR P hint (Γ.up H.n l) Pu (I.put k io) l o) (hh:∀ b,¬ o.has (I.put k io) l b:=by intro b h;exact h):
  au P hint sh (Γ.up H.n l) Pu (H.new o) (I.put k io)/\Ex (fun b=>bk Γ H I b\/b=k) Γ Pu H I (Γ.up H.n l) Pu (H.new o) (I.put k io):=by
 have hk:=zk hs hk0 l io;have upn:Γ.up H.n l H.n=some l:=by simp [aN.up]
 have getold:∀ b,b≠k->(I.put k io).get b=I.get b:=fun b hb=>by rw [IH.ag,if_neg hb]
 have ownne:∀ b,bk Γ H I b->b≠k:=fun b hb e=>by
  obtain ⟨o,ho⟩:=hs.uX hb
  grind
 have ato:∀ id o' l' b,H.get id=some o'->o'.cY=true->Γ id=some l'->At (I.put k io) l' o' b->At I l' o' b:=fun id o' l' b hg hm hl hat=>
  hat.congr fun b y hp'=>getold b (ownne b (.pos hg hm hl hp'))
 have atn:∀ b,At (I.put k io) l o b->b=k:=fun b h=>by
  rcases h with ⟨y,h⟩ |h
  .rw [hp] at h;cases h;rfl
  grind
 have ownI:∀ b,bk (Γ.up H.n l) (H.new o) (I.put k io) b->bk Γ H I b\/b=k:=by
  rintro b ⟨id,o',l',hg,hm',hl',hat⟩;rw [GH.ay] at hg;split at hg
  .grind
  .rename_i h;unfold aN.up at hl';rw [if_neg h] at hl';exact .inl ⟨id,o',l',hg,hm',hl',ato _ _ _ _ hg hm' hl' hat⟩
 refine ⟨⟨?_,?_,?_,?_,?_,?_,?_,?_,?_,?_,hs.nK hk.p hk.i⟩,⟨fun _ _ h=>aN.dm hs h,Nat.le_succ _,zal _,fun _ h=>h,fun b _ hb=>getold b fun e=>hb (.inr e),fun b _ h=>ownI b h,fun b _ h=> .inl h,Nat.le_succ _,?_,?_⟩⟩
 .intro id o' hg
  rw [GH.ay] at hg;split at hg
  .grind
  .obtain ⟨l',hl',_⟩:=hs.obj id o' hg
   refine ⟨l',aN.dm hs hl',hs.dF hk hg hl' fun hm' b hat=>getold b (ownne b ⟨id,o',l',hg,hm',hl',hat⟩)⟩
 .intro id id' o1 o2 l1 l2 b hg hg' hm1 hm2 hl1 hl2 hp1 hp2
  rw [GH.ay] at hg hg';unfold aN.up at hl1 hl2;split at hg<;>split at hg'
  .omega
  .rename_i h h'
   rw [if_pos h] at hl1;rw [if_neg h'] at hl2;cases hl1;cases hg;exact absurd (atn b hp1) (ownne _ ⟨id',o2,l2,hg',hm2,hl2,ato _ _ _ _ hg' hm2 hl2 hp2⟩)
  .rename_i h h'
   rw [if_neg h] at hl1;rw [if_pos h'] at hl2;cases hl2;cases hg';exact absurd (atn b hp2) (ownne _ ⟨id,o1,l1,hg,hm1,hl1,ato _ _ _ _ hg hm1 hl1 hp1⟩)
  .rename_i h h'
   rw [if_neg h] at hl1;rw [if_neg h'] at hl2;exact hs.inj id id' o1 o2 l1 l2 b hg hg' hm1 hm2 hl1 hl2 (ato _ _ _ _ hg hm1 hl1 hp1) (ato _ _ _ _ hg' hm2 hl2 hp2)
 .intro b hb hpu
  rcases ownI b hb with h |h
  .exact hs.sep b h hpu
  .obtain ⟨cs,et,fz,ex,sd,hg⟩:=hs.pu b hpu
   grind
 .intro id l' h
  unfold aN.up at h
  show id<H.n+1
  split at h
  .omega
  .have:=hs.aT id l' h;omega
 .intro b hb
  have hb':I.n<=b:=hb;rw [getold b (by omega)];exact hs.fresh b hb'
 .intro b hb
  obtain ⟨cs,et,fz,ex,sd,hg⟩:=hs.pu b hb
  grind
 .exact hs.ro
 .exact Nat.le_succ_of_le hs.gn
 .intro g hg
  obtain ⟨l',h1,h2⟩:=hs.cq g hg;exact ⟨l',aN.dm hs h1,h2⟩
 .intro id s h
  rw [GH.dI] at h
  show s<H.ck+1
  split at h
  .cases h;omega
  .have:=hs.st id s h;omega
 .intro id hid
  rw [GH.dI,if_neg (by omega)];grind
 .intro id l' b x' s h1 h2 hl' hp'
  exact hs.ey hk h1 hl' hp' fun o' hg hm=>getold b (ownne b (.pos hg hm hl' hp'))
theorem Jb (hs:au P hint sh Γ Pu H I) {k:Nat} (hk0:I.get k=none) (hkn:k<I.n) (hkr:ep<=k) {e:TypeId} {sp:Sh} {ys:List sp.ty} {cs:List Value} (hsz:0<sp.sz) (hlen:cs.length=ys.length*sp.sz) (hrow:Row Pu I sp ys cs 0) (w:Bool) (em:Em) (f:Nat) (hf:f<=ys.length*sp.sz) (hfw:w=true->f=0) (hem:em= .ex->ys≠ []) (cap:Nat) (hcap:je cap sp.sz ys.length 0 cs.length) (ex:Bool):
  au P hint sh (Γ.up H.n ⟨some (k,0),ys.length,sp.sz,cs.length⟩) Pu (H.new (.arr e sp ys w false em)) (I.put k (.cells cs e f ex false))/\
   Ex (fun b=>bk Γ H I b\/b=k) Γ Pu H I (Γ.up H.n ⟨some (k,0),ys.length,sp.sz,cs.length⟩) Pu (H.new (.arr e sp ys w false em)) (I.put k (.cells cs e f ex false))/\
   GR (Γ.up H.n ⟨some (k,0),ys.length,sp.sz,cs.length⟩) Pu (I.put k (.cells cs e f ex false)) (.all H.n) (.slice (some ⟨k,0,none⟩) ys.length cap):=by
 have hk:=zk hs hk0 ⟨some (k,0),ys.length,sp.sz,cs.length⟩ (.cells cs e f ex false)
 obtain ⟨s1,e1⟩:=hs.newAt hk0 hkn (.arr e sp ys w false em) (.cells cs e f ex false) ⟨some (k,0),ys.length,sp.sz,cs.length⟩ 0 rfl
  ⟨rfl,rfl,hsz,.inr ⟨k,0,cs,f,ex,false,rfl,hem,by rw [IH.ag,if_pos rfl],rfl,by omega,fun i x hi=>(hrow i x hi).mono hk.p hk.i,fun _=>⟨hkr,rfl,by omega,fun h=>by grind⟩,fun h=>by cases h⟩⟩
 refine ⟨s1,e1,.all (l:=⟨some (k,0),ys.length,sp.sz,cs.length⟩) (by simp [aN.up]) ?_⟩;exact ⟨cap,by simp,by simpa using hcap⟩
def Km (P:Program) (hint:Hint) (sh:bU) (K:TV->GH->Option Z) (r:Z) (Γ:aN) (Pu:Nat->Prop) (H:GH) (I:IH) (k:Nat) (run:IH->Option az):Prop:=
 ∃ t H1 Γ1 Pu1 v ob,K t H1=some r/\(∀ I2:IH,I2.n=k->run I2=some (.val v (I2.new ob)))/\GR Γ1 Pu1 (I.put k ob) t v/\au P hint sh Γ1 Pu1 H1 (I.put k ob)/\Ex (fun b=>bk Γ H I b\/b=k) Γ Pu H I Γ1 Pu1 H1 (I.put k ob)
theorem uC {sh:bU} (hs:au P hint sh Γ Pu H I) {k:Nat} (hk0:I.get k=none) (hkn:k<I.n) (hkr:ep<=k) {t:TypeId} {len:Nat} {ps:List (Nat×TV)} {ps':List (Nat×Value)} (h:eg P sh H t len ps K=some r) (hp:D7 Γ Pu I ps ps'):
  Km P hint sh K r Γ Pu H I k fun I2=>aZ P I2 t len ps':=by
 unfold eg at h;split at h
 .rename_i e i he
  replace h:=ad h;obtain ⟨hb,h⟩:=h;replace hb:=ae hb;obtain ⟨hb1,hb2⟩:=hb;split at h
  .rename_i z s hz hsh
   replace h:=ad h;obtain ⟨hc,h⟩:=h;replace hc:=ae hc;obtain ⟨hc,hc3⟩:=hc;replace hc:=ae hc;obtain ⟨hc1,hc2⟩:=hc;have k1:=beq_true hc1;have k3:=beq_true hc3;split at h
   .rename_i cells hf
    obtain ⟨vs',hf',hr'⟩:=jQ (vs:=⟨eY z.cells.toList len⟩) hf hb2 hp (tf (eB hc2) len);split at h
    .rename_i cells' H1 hpl
     obtain ⟨Pu1,s1,e1,r1⟩:=iu hs hpl hr';split at h
     .rename_i xs hx
      obtain ⟨a1,a2,a3⟩:=qA hx r1;have hsz:=s.gG;have a2':vs'.toList.length=xs.length*s.sz:=by rw [a1];exact a2
      have hlu:len<ff:=by
       have:=aF hb1;have h2:len<=len*(i.size+1):=Nat.le_mul_of_pos_right _ (by omega);unfold ff;have:(2:Nat)^24<2^64:=by decide
       omega
      obtain ⟨s2,e2,r2⟩:=Jb s1 hk0 hkn hkr (e:=e) (ys:=xs) (cs:=vs'.toList) hsz a2' a3 true false 0 (Nat.zero_le _) (fun _=>rfl) (fun h=>by cases h) len
       (.inr ⟨hlu,by omega,by rw [a2];omega⟩) true
      rw [a1] at r2 s2 e2;refine ⟨_,_,_,_,_,_,h,fun I2 hn=>?_,r2,s2,Ex.qI hs (e1.wk fun _ h=> .inl h) e2 fun b hb hO=>?_⟩
      .simp only [aZ,he,hz]
       rw [if_pos (by simp [hp.ok hb2];simp_all),if_pos k1,hf',hn];rfl
      .rcases hO with h1 |h1
       .exact .inl (e1.own b hb h1)
       .exact .inr h1
     .cases h
    .cases h
   .cases h
  .cases h
 .cases h
theorem HN {sh:bU} (hs:au P hint sh Γ Pu H I) {k:Nat} (hk0:I.get k=none) (hkn:k<I.n) (hkr:ep<=k) {e:TypeId} (h:vp P H e K=some r):
  Km P hint sh K r Γ Pu H I k fun I2=>fR P I2 e:=by
 unfold vp at h;split at h
 .rename_i z hz
  replace h:=ad h;obtain ⟨hb,h⟩:=h
  obtain ⟨s1,e1⟩:=hs.newAt hk0 hkn (.cells e (z.cells.toList.map jW) true) (.cells z.cells.toList e 0 true false) ⟨some (k,0),0,0,0⟩ 0 rfl
   ⟨k,z.cells.toList,0,true,false,rfl,by rw [IH.ag,if_pos rfl],(eB hb).mono (zk hs hk0 _ _),fun _=>⟨hkr,rfl,rfl,rfl⟩,fun h=>by cases h⟩
  refine ⟨_,_,_,_,_,_,h,fun I2 hn=>?_,.ptr (l:=⟨some (k,0),0,0,0⟩) (by simp [aN.up]) rfl,s1,e1⟩;simp only [fR,hz];rw [hn];rfl
 .cases h
theorem C5 {sh:bU} (hs:au P hint sh Γ Pu H I) {k:Nat} (hk0:I.get k=none) (hkn:k<I.n) (hkr:ep<=k) {t:TypeId} {n:Option TV} {n':Option Value} (h:lK P sh H t n K=some r) (hn:dW Γ Pu I n n'):
  ∃ t1 H1 Γ1 Pu1 v ob,K t1 H1=some r/\(∀ I2:IH,I2.n=k->bZ P I2 t n'=some (.val v (I2.new ob)))/\GR Γ1 Pu1 (I.put k ob) t1 v/\au P hint sh Γ1 Pu1 H1 (I.put k ob)/\Ex (fun b=>bk Γ H I b\/b=k) Γ Pu H I Γ1 Pu1 H1 (I.put k ob)/\∃ l,Γ1 H.n=some l/\l.pos=some (k,0):=by
 unfold lK at h;split at h
 .rename_i kt e hm
  split at h
  .rename_i ks es gk ge _ _ _ _
   replace h:=ad h;obtain ⟨hb,h⟩:=h;replace hb:=ae hb;obtain ⟨hb,hko⟩:=hb
   obtain ⟨s1,e1⟩:=hs.newAt hk0 hkn (.map kt gk ge ks es [] false) (.map [] 0) ⟨some (k,0),0,0,0⟩ 0 rfl
    ⟨hko,.inr ⟨k,[],0,rfl,hkr,(fun h=>by cases h),by rw [IH.ag,if_pos rfl],rfl⟩⟩
   have hgr:GR (Γ.up H.n ⟨some (k,0),0,0,0⟩) Pu (I.put k (.map [] 0)) (.mp H.n) (.map (some k)):= .mp (l:=⟨some (k,0),0,0,0⟩) (by simp [aN.up]) rfl;have hev:∀ I2:IH,I2.n=k->bZ P I2 t n'=some (.val (.map (some k)) (I2.new (.map [] 0))):=by
    intro I2 hk;have hu:P.underlying t=some (.map kt e):=by
     unfold pr at hm;split at hm
     .grind
     .cases hm
    cases n with
    |none=>cases n' with
     |none=>rw [←hk];rfl
     |some _=>cases hn
    |some n=>cases n' with
     |none=>cases hn
     |some v=>
      cases n with
      |int k' m=>
       have hn':GR Γ Pu I (.int k' m) v:=by cases hn;assumption
       cases hn';rw [←hk];simp only [bZ,hu]
      |_=>cases hb
   exact ⟨_,_,_,_,_,_,h,hev,hgr,s1,e1,⟨some (k,0),0,0,0⟩,by simp [aN.up],rfl⟩
  .cases h
 .cases h
theorem zl {sh:bU} (hs:au P hint sh Γ Pu H I) {k:Nat} (hk0:I.get k=none) (hkn:k<I.n) (hkr:ep<=k) {t:TypeId} {n:Option TV} {n':Option Value} (h:qC P sh H t n K=some r) (hn:dW Γ Pu I n n'):
  ∃ t1 H1 Γ1 Pu1 v ob,K t1 H1=some r/\(∀ I2:IH,I2.n=k->bZ P I2 t n'=some (.val v (I2.new ob)))/\GR Γ1 Pu1 (I.put k ob) t1 v/\au P hint sh Γ1 Pu1 H1 (I.put k ob)/\Ex (fun b=>bk Γ H I b\/b=k) Γ Pu H I Γ1 Pu1 H1 (I.put k ob)/\∃ l,Γ1 H.n=some l/\l.pos=some (k,0):=C5 hs hk0 hkn hkr h hn
end
end Go.Gv
