/- The two heaps side by side (the second part): what is put to rest, dropped, taken over; lists' rows. -/
import Derived.Test.YteknbnkjelmfaaaGreatDoorGvSimX
set_option linter.unusedSimpArgs false
set_option linter.unusedVariables false
namespace Go.Gv
open Go Go.Iv
section
variable {P:Program} {hint:Hint} {sh:bU}
variable {O O2:Nat->Prop} {Γ Γ1 Γ2:aN} {Pu Pu1 Pu2:Nat->Prop} {H H1 H2:GH} {I I1 I2:IH}
theorem Ex.qI (hs:au P hint sh Γ Pu H I) (h:Ex O Γ Pu H I Γ1 Pu1 H1 I1) (k:Ex O2 Γ1 Pu1 H1 I1 Γ2 Pu2 H2 I2) (hO:∀ b,b<I.n->O2 b->O b):Ex O Γ Pu H I Γ2 Pu2 H2 I2 where
 g:=fun id l x=>k.g id l (h.g id l x)
 hn:=Nat.le_trans h.hn k.hn
 n:=Nat.le_trans h.n k.n
 p:=fun b x=>k.p b (h.p b x)
 cE:=fun b hb ho=>(k.cE b (Nat.lt_of_lt_of_le hb h.n) fun x=>ho (hO b hb x)).trans (h.cE b hb ho)
 own:=fun b hb x=>hO b hb (k.own b (Nat.lt_of_lt_of_le hb h.n) x)
 pn:=fun b hb x=>(k.pn b (Nat.lt_of_lt_of_le hb h.n) x).elim (h.pn b hb) fun y=> .inr (hO b hb y)
 ck:=Nat.le_trans h.ck k.ck
 wx:=fun id hid=>by
  rcases k.wx id (Nat.lt_of_lt_of_le hid h.hn) with x |x |⟨s,x,y⟩
  .exact .inl x
  .rw [x];exact h.wx id hid
  .exact .inr (.inr ⟨s,x,Nat.le_trans h.ck y⟩)
 jv:=fun id l b x s hs0 hs2 hl hp=>by
  have hid:=hs.aT id l hl;have hlt:=hs.st id s hs0;rcases k.wx id (Nat.lt_of_lt_of_le hid h.hn) with y |y |⟨s',y,z⟩
  .grind
  .rw [y] at hs2
   exact (k.jv id l b x s hs2 (y.trans hs2) (h.g id l hl) hp).trans (h.jv id l b x s hs0 hs2 hl hp)
  .rw [y] at hs2;cases hs2
   have:=h.ck;omega
theorem au.Tx (hs:au P hint sh Γ Pu H I) {id:Nat} {o o':bu} {l:Loc} (hg:H.get id=some o) (hm:o.cY=true) (hl:Γ id=some l) (hm':o'.cY=false) (ho':OR P hint Γ (fun b=>Pu b\/At I l o b) I l o') (hc:∀ b,At I l o b->∃ cs et fz ex sd,I.get b=some (.cells cs et fz ex sd)):
  au P hint sh Γ (fun b=>Pu b\/At I l o b) (H.put id o') I/\Ex (bk Γ H I) Γ Pu H I Γ (fun b=>Pu b\/At I l o b) (H.put id o') I:=by
 have hk:cp Γ Pu I Γ (fun b=>Pu b\/At I l o b) I:=⟨fun _ _ h=>h,fun _ h=> .inl h,fun _ _=>rfl⟩;have ownI:∀ b',bk Γ (H.put id o') I b'->bk Γ H I b'/\¬ At I l o b':=by
  rintro b' ⟨id',o2,l',hg',hm2,hl',hat⟩;rw [GH.ag] at hg';split at hg'
  .grind
  .rename_i hne
   refine ⟨⟨id',o2,l',hg',hm2,hl',hat⟩,fun h=>?_⟩;exact hne (hs.inj id' id o2 o l' l b' hg' hg hm2 hm hl' hl hat h)
 refine ⟨⟨?_,?_,?_,hs.aT,hs.fresh,?_,hs.ro,hs.gn,hs.cq,?_,hs.nK hk.p hk.i⟩,⟨fun _ _ h=>h,zal _,zal _,fun _ h=> .inl h,fun _ _ _=>rfl,fun b' _ h=>(ownI b' h).1,?_,Nat.le_succ _,?_,fun _ _ _ _ _ _ _ _ _=>rfl⟩⟩
 .intro id' o2 hg'
  rw [GH.ag] at hg';split at hg'
  .grind
  .obtain ⟨l',hl',ho⟩:=hs.obj id' o2 hg'
   exact ⟨l',hl',ho.mono hk fun _ _=>rfl⟩
 .intro i1 i2 o1 o2 l1 l2 b' hg1 hg2 hm1 hm2 hl1 hl2 hp1 hp2
  rw [GH.ag] at hg1 hg2;split at hg1
  .grind
  .split at hg2
   .grind
   .exact hs.inj i1 i2 o1 o2 l1 l2 b' hg1 hg2 hm1 hm2 hl1 hl2 hp1 hp2
 .intro b' hb' hpu
  rcases hpu with h |h
  .exact hs.sep b' (ownI b' hb').1 h
  grind
 .intro b' hb'
  rcases hb' with h |h
  .exact hs.pu b' h
  grind
 .intro id' s h
  rw [GH.eZ] at h
  show s<H.ck+1
  split at h
  .grind
  .have:=hs.st id' s h;omega
 .intro b' _ h
  rcases h with h |h
  .exact .inl h
  .exact .inr ⟨id,o,l,hg,hm,hl,h⟩
 .intro id' _
  rw [GH.eZ]
  grind
theorem au.U0 (hs:au P hint sh Γ Pu H I) {id:Nat} {et:TypeId} {e:Sh} {xs:List e.ty} {w:Bool} {em:Em} {l:Loc} (hg:H.get id=some (.arr et e xs w false em)) (hl:Γ id=some l):
  ∃ Pu1,au P hint sh Γ Pu1 (H.put id (.arr et e xs w true em)) I/\Ex (bk Γ H I) Γ Pu H I Γ Pu1 (H.put id (.arr et e xs w true em)) I/\∀ b x,l.pos=some (b,x)->Pu1 b:=by
 obtain ⟨l',hl',ho⟩:=hs.obj id _ hg;cases hl.symm.trans hl';have h0:im Pu I l et e xs w false em:=ho;have hat:∀ b,At I l (.arr et e xs w false em) b->∃ x,l.pos=some (b,x):=fun b h=>h.elim (fun h=>h) fun h=>absurd h (fun h=>h)
 obtain ⟨s1,e1⟩:=hs.Tx (o':= .arr et e xs w true em) hg rfl hl rfl (by
  obtain ⟨h1,h2,h3,h4 |⟨b,o,vs,f,ex,sd,hp,he,hg2,ht,hlen,hx,hw,hu⟩⟩:=h0
  .exact ⟨h1,h2,h3,.inl h4⟩
  .exact ⟨h1,h2,h3,.inr ⟨b,o,vs,f,ex,sd,hp,he,hg2,ht,hlen,fun i x hi=>(hx i x hi).mono (fun _ h=> .inl h) (fun _ _=>rfl),(fun h=>by cases h),(fun _=> .inr (.inl ⟨o,hp⟩))⟩⟩) (fun b h=>by
  obtain ⟨x,hp⟩:=hat b h;obtain ⟨vs,f,ex,sd,hg2⟩:=h0.get hp
  grind)
 exact ⟨_,s1,e1,fun b x hp=> .inr (.inl ⟨x,hp⟩)⟩
theorem au.drop (hs:au P hint sh Γ Pu H I) (id:Nat):au P hint sh Γ Pu (H.del id) I/\Ex (bk Γ H I) Γ Pu H I Γ Pu (H.del id) I:=by
 have old:∀ id' o,(H.del id).get id'=some o->H.get id'=some o/\id'≠id:=fun id' o h=>by
  rw [GH.cf] at h
  grind
 have ownI:∀ b',bk Γ (H.del id) I b'->bk Γ H I b':=fun b' ⟨id',o2,l',hg',r⟩=>⟨id',o2,l',(old id' o2 hg').1,r⟩
 refine ⟨⟨fun id' o h=>hs.obj id' o (old id' o h).1,fun i1 i2 o1 o2 l1 l2 b h1 h2=>hs.inj i1 i2 o1 o2 l1 l2 b (old _ _ h1).1 (old _ _ h2).1,fun b hb=>hs.sep b (ownI b hb),hs.aT,hs.fresh,hs.pu,hs.ro,hs.gn,hs.cq,?_,hs.FT⟩,
  ⟨fun _ _ h=>h,zal _,zal _,fun _ h=>h,fun _ _ _=>rfl,fun b _ h=>ownI b h,fun _ _ h=> .inl h,zal _,?_,fun _ _ _ _ _ _ _ _ _=>rfl⟩⟩
 .intro id' s h
  rw [GH.eu] at h;split at h
  .cases h
  .exact hs.st id' s h
 .intro id' _
  rw [GH.eu]
  grind
theorem au.Gt (hs:au P hint sh Γ Pu H I) {id:Nat} {o:bu} {l:Loc} {b:Nat} (hg:H.get id=some o) (hm:o.cY=true) (hl:Γ id=some l) (hat:At I l o b):¬ bk Γ (H.del id) I b:=by
 rintro ⟨id',o2,l',hg',hm',hl',hp'⟩;rw [GH.cf] at hg';split at hg'
 .cases hg'
 .rename_i hne
  exact hne (hs.inj id' id o2 o l' l b hg' hg hm' hm hl' hl hp' hat)
theorem au.free (hs:au P hint sh Γ Pu H I) {id:Nat} {o:bu} {l:Loc} {b x:Nat} (hg:H.get id=some o) (hm:o.cY=true) (hl:Γ id=some l) (hp:l.pos=some (b,x)):¬ bk Γ (H.del id) I b:=
 hs.Gt hg hm hl (.inl ⟨x,hp⟩)
theorem au.ib (hs:au P hint sh Γ Pu H I) {b:Nat} (hno:¬ bk Γ H I b) (hnp:¬ Pu b) {id:Nat} {o:bu} {l:Loc} (hg:H.get id=some o) (hl:Γ id=some l) (hat:At I l o b):False:=by
 cases hm:o.cY with
 |true=>exact hno ⟨id,o,l,hg,hm,hl,hat⟩
 |false=>
  obtain ⟨l',hl',ho⟩:=hs.obj id o hg;cases hl.symm.trans hl';exact hnp (ho.rest hm hat)
theorem au.oI (hs:au P hint sh Γ Pu H I) {b:Nat} (hno:¬ bk Γ H I b) (hnp:¬ Pu b) {id:Nat} {o:bu} {l:Loc} {x:Nat} (hg:H.get id=some o) (hl:Γ id=some l) (hp:l.pos=some (b,x)):False:=
 hs.ib hno hnp hg hl (.inl ⟨x,hp⟩)
theorem au.kill (hs:au P hint sh Γ Pu H I) {b:Nat} (hno:¬ bk Γ H I b) (hnp:¬ Pu b):au P hint sh Γ Pu H (I.del b)/\Ex (fun b'=>bk Γ H I b'\/b'=b) Γ Pu H I Γ Pu H (I.del b):=by
 have hk:cp Γ Pu I Γ Pu (I.del b):=⟨fun _ _ h=>h,fun _ h=>h,fun b' hb'=>by rw [IH.cf,if_neg (by grind)]⟩;have ato:∀ {id o l b'},H.get id=some o->Γ id=some l->At (I.del b) l o b'->At I l o b':=fun hg hl hat=>hat.congr fun b2 x hp=>by rw [IH.cf,if_neg (by rintro rfl;exact hs.oI hno hnp hg hl hp)]
 have ownI:∀ b',bk Γ H (I.del b) b'->bk Γ H I b':=fun b' ⟨id,o,l,hg,hm,hl,hat⟩=>⟨id,o,l,hg,hm,hl,ato hg hl hat⟩
 refine ⟨⟨?_,fun i1 i2 o1 o2 l1 l2 b' h1 h2 h3 h4 h5 h6 h7 h8=>hs.inj i1 i2 o1 o2 l1 l2 b' h1 h2 h3 h4 h5 h6 (ato h1 h5 h7) (ato h2 h6 h8),fun b' h=>hs.sep b' (ownI b' h),hs.aT,?_,?_,hs.ro,hs.gn,hs.cq,hs.st,hs.nK hk.p hk.i⟩,⟨fun _ _ h=>h,zal _,zal _,fun _ h=>h,?_,fun b _ h=> .inl (ownI b h),fun _ _ h=> .inl h,zal _,fun _ _=> .inr (.inl rfl),?_⟩⟩
 .intro id o hg
  obtain ⟨l,hl,ho⟩:=hs.obj id o hg;exact ⟨l,hl,ho.mono hk fun b' hat=>by rw [IH.cf,if_neg (by rintro rfl;exact hs.ib hno hnp hg hl hat)]⟩
 .intro b' hb'
  rw [IH.cf];split
  .rfl
  .exact hs.fresh b' hb'
 .intro b' hb'
  obtain ⟨cs,et,fz,ex,sd,hg'⟩:=hs.pu b' hb';exact ⟨cs,et,fz,ex,sd,(hk.i b' hb').trans hg'⟩
 .intro b' _ ho
  rw [IH.cf,if_neg (fun h=>ho (.inr h))]
 .intro id l b' x s h1 _ hl hp
  obtain ⟨o,hg⟩:=GH.hY h1;rw [IH.cf,if_neg (by rintro rfl;exact hs.oI hno hnp hg hl hp)]
theorem au.Gp (hs:au P hint sh Γ Pu H I) {b:Nat} (hno:¬ bk Γ H I b) (hnp:¬ Pu b) (hb:b<I.n) (o:bu) (io:bN) (l:Loc) (x:Nat) (hp:l.pos=some (b,x)) (ho:OR P hint (Γ.up H.n l) Pu (I.put b io) l o)
  (hh:∀ b',o.has (I.put b io) l b'->b'≠b/\¬ bk Γ H I b'/\¬ Pu b'/\b'<I.n:=by intro b h;exact absurd h (fun h=>h)):
  au P hint sh (Γ.up H.n l) Pu (H.new o) (I.put b io)/\Ex (fun b'=>bk Γ H I b'\/At (I.put b io) l o b') Γ Pu H I (Γ.up H.n l) Pu (H.new o) (I.put b io):=by
 have hk:cp Γ Pu I (Γ.up H.n l) Pu (I.put b io):=⟨fun _ _ h=>aN.dm hs h,fun _ h=>h,fun b' hb'=>by rw [IH.ag,if_neg (by grind)]⟩;have upn:Γ.up H.n l H.n=some l:=by simp [aN.up]
 have other:∀ {id o' l' b'},H.get id=some o'->Γ id=some l'->At I l' o' b'->(I.put b io).get b'=I.get b':=fun hg hl hat=>by
  rw [IH.ag,if_neg (by rintro rfl;exact hs.ib hno hnp hg hl hat)]
 have ato:∀ {id o' l' b'},H.get id=some o'->Γ id=some l'->At (I.put b io) l' o' b'->At I l' o' b':=fun hg hl hat=>hat.congr fun b2 y hp2=>other hg hl (.inl ⟨y,hp2⟩)
 have atn:∀ b',At (I.put b io) l o b'->¬ bk Γ H I b'/\¬ Pu b'/\b'<I.n:=fun b' h=>by
  rcases h with ⟨y,h⟩ |h
  .rw [hp] at h;cases h;exact ⟨hno,hnp,hb⟩
  grind
 have ownI:∀ b',bk (Γ.up H.n l) (H.new o) (I.put b io) b'->bk Γ H I b'\/At (I.put b io) l o b':=by
  rintro b' ⟨id,o',l',hg,hm',hl',hat⟩;rw [GH.ay] at hg;split at hg
  .grind
  .rename_i h;unfold aN.up at hl';rw [if_neg h] at hl';exact .inl ⟨id,o',l',hg,hm',hl',ato hg hl' hat⟩
 refine ⟨⟨?_,?_,?_,?_,?_,?_,hs.ro,Nat.le_succ_of_le hs.gn,?_,?_,hs.nK hk.p hk.i⟩,⟨fun _ _ h=>aN.dm hs h,Nat.le_succ _,zal _,fun _ h=>h,?_,fun b' _=>ownI b',fun b' _ h=> .inl h,Nat.le_succ _,?_,?_⟩⟩
 .intro id o' hg
  rw [GH.ay] at hg;split at hg
  .grind
  .obtain ⟨l',hl',ho'⟩:=hs.obj id o' hg
   exact ⟨l',aN.dm hs hl',ho'.mono hk fun b' hat=>other hg hl' hat⟩
 .intro id id' o1 o2 l1 l2 b' hg hg' hm1 hm2 hl1 hl2 hp1 hp2
  rw [GH.ay] at hg hg';unfold aN.up at hl1 hl2;split at hg<;>split at hg'
  .omega
  .rename_i h h'
   rw [if_pos h] at hl1;rw [if_neg h'] at hl2;cases hl1;cases hg;obtain ⟨n1,n2,_⟩:=atn b' hp1;exact (hs.ib n1 n2 hg' hl2 (ato hg' hl2 hp2)).elim
  .rename_i h h'
   rw [if_neg h] at hl1;rw [if_pos h'] at hl2;cases hl2;cases hg';obtain ⟨n1,n2,_⟩:=atn b' hp2;exact (hs.ib n1 n2 hg hl1 (ato hg hl1 hp1)).elim
  .rename_i h h'
   rw [if_neg h] at hl1;rw [if_neg h'] at hl2;exact hs.inj id id' o1 o2 l1 l2 b' hg hg' hm1 hm2 hl1 hl2 (ato hg hl1 hp1) (ato hg' hl2 hp2)
 .intro b' hb' hpu
  rcases ownI b' hb' with h |h
  .exact hs.sep b' h hpu
  grind
 .intro id l' h
  unfold aN.up at h
  show id<H.n+1
  split at h
  .omega
  .have:=hs.aT id l' h;omega
 .intro b' hb'
  rw [IH.ag,if_neg (by have:I.n<=b':=hb';omega)];exact hs.fresh b' hb'
 .intro b' hb'
  obtain ⟨cs,et,fz,ex,sd,hg'⟩:=hs.pu b' hb';exact ⟨cs,et,fz,ex,sd,(hk.i b' hb').trans hg'⟩
 .intro g hg
  obtain ⟨l',h1,h2⟩:=hs.cq g hg;exact ⟨l',aN.dm hs h1,h2⟩
 .intro id s h
  rw [GH.dI] at h
  show s<H.ck+1
  split at h
  .grind
  .have:=hs.st id s h;omega
 .intro b' _ hno'
  rw [IH.ag,if_neg (fun h=>by subst h;exact hno' (.inr (.inl ⟨x,hp⟩)))]
 .intro id hid
  rw [GH.dI,if_neg (by omega)];grind
 .intro id l' b' x' s h1 _ hl' hp'
  obtain ⟨o',hg⟩:=GH.hY h1;exact other hg hl' (.inl ⟨x',hp'⟩)
theorem IH.pJ (I:IH) {b:Nat} {io:bN} (h:I.get b=some io) (k:Nat):(I.put b io).get k=I.get k:=by
 rw [IH.ag];grind
theorem au.wa (hs:au P hint sh Γ Pu H I) (hg:∀ b,I1.get b=I.get b) (hn:I1.n=I.n):au P hint sh Γ Pu H I1 where
 obj:=fun id o h=>by
  obtain ⟨l,hl,ho⟩:=hs.obj id o h;exact ⟨l,hl,ho.mono ⟨fun _ _ h=>h,fun _ h=>h,fun b _=>hg b⟩ fun b _=>hg b⟩
 inj:=fun i1 i2 o1 o2 l1 l2 b h1 h2 h3 h4 h5 h6 h7 h8=>hs.inj i1 i2 o1 o2 l1 l2 b h1 h2 h3 h4 h5 h6 (h7.congr fun b _ _=>hg b) (h8.congr fun b _ _=>hg b)
 sep:=fun b ⟨id,o,l,h1,h2,h3,h4⟩=>hs.sep b ⟨id,o,l,h1,h2,h3,h4.congr fun b _ _=>hg b⟩
 aT:=hs.aT
 fresh:=fun b hb=>(hg b).trans (hs.fresh b (hn▸hb))
 pu:=fun b hb=>by obtain ⟨cs,et,fz,ex,sd,h⟩:=hs.pu b hb;grind
 ro:=hn▸hs.ro
 gn:=hs.gn
 cq:=hs.cq
 st:=hs.st
 FT:=hs.nK (fun _ h=>h) (fun b _=>hg b)
def Row (Pu:Nat->Prop) (I:IH) (e:Sh) (xs:List e.ty) (vs:List Value) (a:Nat):Prop:=∀ i x,xs[i]? =some x->bA Pu I e x ((vs.drop (a+i*e.sz)).take e.sz)
theorem Row.mono (hk:cp Γ Pu I Γ1 Pu1 I1) {e:Sh} {xs:List e.ty} {vs:List Value} {a:Nat} (h:Row Pu I e xs vs a):Row Pu1 I1 e xs vs a:=fun i x hi=>(h i x hi).mono hk.p hk.i
theorem Row.part {e:Sh} {xs:List e.ty} {vs:List Value} {a:Nat} (h:Row Pu I e xs vs a) (off len:Nat):Row Pu I e ((xs.drop off).take len) vs (a+off*e.sz):=by
 intro i x hi;rw [List.getElem?_take] at hi;split at hi
 .rw [List.getElem?_drop] at hi
  have:=h _ x hi
  grind
 .cases hi
theorem Row.cut {e:Sh} {xs:List e.ty} {vs:List Value} {a:Nat} (h:Row Pu I e xs vs a) (n:Nat) (hn:xs.length<=n):Row Pu I e xs ((vs.drop a).take (n*e.sz)) 0:=by
 intro i x hi;have hl:i<xs.length:=by
  rw [List.getElem?_eq_some_iff] at hi;exact hi.1
 have:=h i x hi;rw [Nat.zero_add,List.drop_take,zak,List.take_take];have hm:min e.sz (n*e.sz - i*e.sz)=e.sz:=by
  have:(i+1)*e.sz<=n*e.sz:=Nat.mul_le_mul_right _ (by omega);rw [zaj,Nat.one_mul] at this;omega
 grind
theorem Row.app {e:Sh} {xs ys:List e.ty} {vs us:List Value} (h:Row Pu I e xs vs 0) (k:Row Pu I e ys us 0) (hl:vs.length=xs.length*e.sz):Row Pu I e (xs++ys) (vs++us) 0:=by
 intro i x hi;rcases Nat.lt_or_ge i xs.length with hlt |hge
 .rw [List.getElem?_append_left hlt] at hi
  have:=h i x hi;rw [Nat.zero_add] at this ⊢;have hb:i*e.sz+e.sz<=vs.length:=by
   rw [hl];have:(i+1)*e.sz<=xs.length*e.sz:=Nat.mul_le_mul_right _ hlt
   rwa [zaj,Nat.one_mul] at this
  grind
 .rw [List.getElem?_append_right hge] at hi
  have:=k _ x hi;rw [Nat.zero_add] at this ⊢;have:(vs++us).drop (i*e.sz)=us.drop ((i - xs.length)*e.sz):=by
   rw [List.drop_append,List.drop_of_length_le (by rw [hl];exact Nat.mul_le_mul_right _ hge),List.nil_append,hl,Nat.sub_mul]
  grind
theorem bA.zn {s:Sh}:∀ {x:s.ty} {vs:List Value},bA Pu I s x vs->vs.all Iv.one=true:=by
 induction s with
 |int k=>intro x vs h;unfold bA at h;subst h;rfl
 |byte=>intro x vs h;unfold bA at h;subst h;rfl
 |bool=>intro x vs h;unfold bA at h;subst h;rfl
 |str=>intro x vs h;unfold bA at h;subst h;rfl
 |cons a b iha ihb=>intro x vs h;unfold bA at h;grind
 |bH e ih=>
  intro x vs h;unfold bA at h;rcases h with ⟨_,rfl⟩ |⟨b,off,cap,cs,et,fz,ex,sd,rfl,_⟩ |⟨_,b,rfl⟩<;>rfl
theorem Row.zn {e:Sh}:∀ {xs:List e.ty} {vs:List Value},Row Pu I e xs vs 0->vs.length=xs.length*e.sz->vs.all Iv.one=true:=by
 intro xs
 induction xs with
 |nil=>grind
 |cons x xs ih=>
  intro vs h hl;have h0:=(h 0 x rfl).zn;rw [Nat.zero_mul,Nat.add_zero,List.drop_zero] at h0;have h1:=ih (vs:=vs.drop e.sz) (fun i y hi=>by
   have:=h (i+1) y hi;rw [Nat.zero_add] at this ⊢;rw [zak,Nat.add_comm e.sz]
   grind) (by simp [hl,zaj])
  rw [←List.take_append_drop e.sz vs,List.all_append,h0,h1];rfl
theorem mM {l:Loc} {et:TypeId} {e:Sh} {xs:List e.ty} {w fz:Bool} {em:Em} (ho:OR P hint Γ Pu I l (.arr et e xs w fz em)) (hpu:∀ b x,l.pos=some (b,x)->Pu b) {off len:Nat} (hle:off+len<=xs.length) {v:Value} (hv:fF l off len v):
  bA Pu I (.bH e) ((xs.drop off).take len) [v]:=by
 obtain ⟨h1,h2,h3,⟨hp,hx,_⟩ |⟨b,o,vs,f,ex,sd,hp,he,hg2,ht,hlen,hx,_,_⟩⟩:=ho
 .unfold fF at hv;rw [hp] at hv
  obtain ⟨rfl,rfl⟩:=hv;exact .inl ⟨by simp,rfl⟩
 .unfold fF at hv;rw [hp] at hv
  obtain ⟨cap,rfl,hc⟩:=hv;rw [h2,←ht] at hc;have hlen':((xs.drop off).take len).length=len:=by simp;omega
  refine .inr (.inl ⟨b,o+off*e.sz,cap,vs,et,f,ex,sd,?_,hpu b o hp,hg2,?_,?_,?_⟩)
  .rw [hlen',h2]
  .rw [hlen'];exact hc
  .rw [hlen']
   have:(off+len)*e.sz<=xs.length*e.sz:=Nat.mul_le_mul_right _ hle;rw [zaj] at this;omega
  grind
theorem Sh.RD:∀ {s:Sh} (x:s.ty) (r:List TV),s.of (s.cV x++r)=some (x,r):=by
 intro s
 induction s with
 |int k=>intro x r;simp [Sh.of,Sh.cV,ofInt]
 |byte=>intro x r;rfl
 |bool=>intro x r;rfl
 |str=>intro x r;rfl
 |cons a b iha ihb=>
  intro x r;simp only [Sh.of,Sh.cV,List.append_assoc,iha,ihb]
 |bH e ih=>
  intro x r;obtain ⟨_,e1⟩:=Sh.xQ e;simp only [Sh.of,Sh.cV,xG,List.cons_append,List.nil_append,e1];rfl
theorem Sh.yr {s:Sh} (x:s.ty):s.jE (s.cV x)=some x:=by
 have h:=Sh.RD x [];rw [List.append_nil] at h;unfold Sh.jE;rw [h]
theorem au.Ui (hs:au P hint sh Γ Pu H I) {id:Nat} {et:TypeId} {e:Sh} {no:Nat} {net:TypeId} {ne:Sh} {xs:List e.ty} {em:Em} {l:Loc} (hg:H.get id=some (.nest et e no net ne xs em none)) (hl:Γ id=some l):
  ∃ Pu1,au P hint sh Γ Pu1 (H.put id (.arr et e xs true true em)) I/\Ex (bk Γ H I) Γ Pu H I Γ Pu1 (H.put id (.arr et e xs true true em)) I/\∀ b x,l.pos=some (b,x)->Pu1 b:=by
 obtain ⟨l',hl',ho⟩:=hs.obj id _ hg;cases hl.symm.trans hl';have h0:bo Γ Pu I l et e no net ne xs em none:=ho;have inner:∀ b0 o vs f ex sd et',l.pos=some (b0,o)->I.get b0=some (.cells vs et' f ex sd)->∀ i x v,xs[i]? =some x->vs[o+i*e.sz+no]? =some v->∃ l',im Pu I l' net ne (aL e no ne x) true false .ex/\fF l' 0 l'.len v:=by
  intro b0 o vs f ex sd et' hp hg2 i x v hx hv;obtain ⟨h1,h2,h3,h4,h5 |⟨b1,o1,vs1,f1,ex1,hp1,he,hg1,ht,hle,hro,hf,hx1,hy,hh,hd,hself⟩⟩:=h0
  .grind
  .grind
 have hasB:∀ b0 o vs f ex sd et',l.pos=some (b0,o)->I.get b0=some (.cells vs et' f ex sd)->∀ i x v,xs[i]? =some x->vs[o+i*e.sz+no]? =some v->∀ b,pj v=some b->At I l (.nest et e no net ne xs em none) b:=by
  intro b0 o vs f ex sd et' hp hg2 i x v hx hv b hb;refine .inr ⟨i,by simp,?_,b0,o,vs,et',f,ex,sd,hp,hg2,by grind⟩;have:=(List.getElem?_eq_some_iff.1 hx).1;have:=h0.1;omega
 obtain ⟨s1,e1⟩:=hs.Tx (o':= .arr et e xs true true em) hg rfl hl rfl (by
  obtain ⟨h1,h2,h3,h4,h5 |⟨b,o,vs,f,ex,hp,he,hg2,ht,hle,hro,hf,hx,hy,hh,hd,hself⟩⟩:=ho
  .exact ⟨h1,h2,h3,.inl ⟨h5.1,h5.2.1,h5.2.2.1⟩⟩
  .refine ⟨h1,h2,h3,.inr ⟨b,o,vs,f,ex,false,hp,he,hg2,ht,hle,fun i x hi=>?_,(fun h=>by cases h),(fun _=> .inr (.inl ⟨o,hp⟩))⟩⟩
   obtain ⟨k1,k2⟩:=fJ h4;obtain ⟨g1,_,_⟩:=k2 x;have hil:i<xs.length:=(List.getElem?_eq_some_iff.1 hi).1;have hvl:o+i*e.sz+no<vs.length:=by
    have:(i+1)*e.sz<=xs.length*e.sz:=Nat.mul_le_mul_right _ hil;rw [zaj] at this;omega
   have hv:vs[o+i*e.sz+no]? =some vs[o+i*e.sz+no]:=zam hvl;generalize vs[o+i*e.sz+no]=v at hv;obtain ⟨l',a1,a2⟩:=inner b o vs f ex false et hp hg2 i x v hi hv;have a3:OR P hint Γ (fun b=>Pu b\/At I l (.nest et e no net ne xs em none) b) I l' (.arr net ne (aL e no ne x) true false .ex):=a1.mono (fun _ h=> .inl h) (fun _ _=>rfl) (fun _ _ _=>rfl);rw [show l'.len=List.length (aL e no ne x) from a1.1] at a2;have a4:=mM a3 (fun b' x' hp'=> .inr (hasB b o vs f ex false et hp hg2 i x v hi hv b' (by
    unfold fF at a2;rw [hp'] at a2;obtain ⟨cap,rfl,_⟩:=a2;rfl))) (off:=0) (len:=List.length (aL e no ne x)) (by omega) a2
   rw [List.drop_zero,List.take_length] at a4;have a5:br Γ (fun b=>Pu b\/At I l (.nest et e no net ne xs em none) b) I ((e.cV x).set no .undef) ((vs.drop (o+i*e.sz)).take e.sz):=(hx i x hi).mono ⟨fun _ _ h=>h,fun _ h=> .inl h,fun _ _=>rfl⟩;have a7:GR Γ (fun b=>Pu b\/At I l (.nest et e no net ne xs em none) b) I (.aB ne (aL e no ne x) none false) v:= .aB a4 (fun c hc=>by cases hc) (fun hc=>by cases hc);have a6:=a5.set no a7;rw [List.set_set] at a6;have b1:(e.cV x).set no (.aB ne (aL e no ne x) none false)=e.cV x:=by
    apply List.ext_getElem?;intro k;rw [List.getElem?_set];split
    .grind
    .rfl
   have b2:((vs.drop (o+i*e.sz)).take e.sz).set no v=(vs.drop (o+i*e.sz)).take e.sz:=by
    have hk:((vs.drop (o+i*e.sz)).take e.sz)[no]? =some v:=by
     rw [List.getElem?_take,if_pos k1,List.getElem?_drop];exact hv
    apply List.ext_getElem?;intro k;rw [List.getElem?_set];split
    .grind
    .rfl
   rw [b1,b2] at a6;exact Sh.gA (Sh.yr x) a6) (fun b h=>by
  obtain ⟨h1,h2,h3,h4,h5 |⟨b1,o,vs,f,ex,hp,he,hg2,ht,hle,hro,hf,hx,hy,hh,hd,hself⟩⟩:=h0
  .rcases h with ⟨x,hp⟩ |⟨i,_,_,b0,o0,vs0,et0,f0,ex0,sd0,hp0,_⟩
   .rw [h5.1] at hp;cases hp
   grind
  .rcases h with ⟨x,hp'⟩ |⟨i,_,hi,b0,o0,vs0,et0,f0,ex0,sd0,hp0,hg0,hb⟩
   .grind
   .have hil:i<xs.length:=by omega
    have hxi:xs[i]? =some xs[i]:=zam hil;cases hq:vs0[o0+i*e.sz+no]? with
    |none=>rw [hq] at hb;cases hb
    |some v=>
     rw [hq] at hb;obtain ⟨l',a1,a2⟩:=inner b0 o0 vs0 f0 ex0 sd0 et0 hp0 hg0 i _ v hxi hq;unfold fF at a2;split at a2
     .obtain ⟨rfl,_⟩:=a2;cases hb
     .rename_i b2 o2 hp2
      obtain ⟨cap,rfl,_⟩:=a2;cases hb;obtain ⟨vs2,f2,ex2,sd2,hg3⟩:=a1.get hp2;exact ⟨_,_,_,_,_,hg3⟩)
 exact ⟨_,s1,e1,fun b x hp=> .inr (.inl ⟨x,hp⟩)⟩
theorem Cj (hs:au P hint sh Γ Pu H I) {t t':TV} {v:Value} (h:rS H t=some (t',H1)) (hr:GR Γ Pu I t v):
  ∃ Pu1,au P hint sh Γ Pu1 H1 I/\Ex (bk Γ H I) Γ Pu H I Γ Pu1 H1 I/\GR Γ Pu1 I t' v:=by
 unfold rS at h;split at h
 .rename_i id
  split at h
  .rename_i et e xs w fz em hg
   cases h;cases hr with |all hl hv=>
   obtain ⟨l',hl',ho⟩:=hs.obj id _ hg;cases hl.symm.trans hl';rw [ho.1] at hv;cases fz with
   |true=>
    refine ⟨Pu,hs,Ex.refl hs,.aB ?_ (fun _ h=>by cases h) (fun h=>by cases h)⟩;have:=mM ho (fun b x hp=>by
     obtain ⟨_,_,_,h4 |⟨b',o,vs,f,ex,sd,hp2,he,hg2,ht,hlen,hx,_,hu⟩⟩:=ho
     .rw [h4.1] at hp;cases hp
     .cases hp.symm.trans hp2;exact hu rfl) (off:=0) (len:=xs.length) (by omega) hv
    simpa using this
   |false=>
    obtain ⟨Pu1,h1,h2,h3⟩:=hs.U0 hg hl;refine ⟨Pu1,h1,h2,.aB ?_ (fun _ h=>by cases h) (fun h=>by cases h)⟩;obtain ⟨l2,hl2,ho2⟩:=h1.obj id (.arr et e xs w true em) (by rw [GH.ag,if_pos rfl]);cases hl.symm.trans hl2;have:=mM ho2 h3 (off:=0) (len:=xs.length) (by omega) hv;simpa using this
  .rename_i et e no net ne xs em hg
   cases h;cases hr with |all hl hv=>
   obtain ⟨l',hl',ho⟩:=hs.obj id _ hg;cases hl.symm.trans hl';rw [show Loc.len _=List.length xs from (show bo _ _ _ _ _ _ _ _ _ _ _ _ from ho).1] at hv;obtain ⟨Pu1,h1,h2,h3⟩:=hs.Ui hg hl;refine ⟨Pu1,h1,h2,.aB ?_ (fun _ h=>by cases h) (fun h=>by cases h)⟩;obtain ⟨l2,hl2,ho2⟩:=h1.obj id (.arr et e xs true true em) (by rw [GH.ag,if_pos rfl]);cases hl.symm.trans hl2;have:=mM ho2 h3 (off:=0) (len:=xs.length) (by omega) hv;simpa using this
  .cases h
 .rename_i id off len
  split at h
  .rename_i et e xs w fz em hg
   cases h;cases hr with |own hl hle hv=>
   obtain ⟨l',hl',ho⟩:=hs.obj id _ hg;cases hl.symm.trans hl';rw [ho.1] at hle;cases fz with
   |true=>
    refine ⟨Pu,hs,Ex.refl hs,.aB ?_ (fun _ h=>by cases h) (fun h=>by cases h)⟩;exact mM ho (fun b x hp=>by
     obtain ⟨_,_,_,h4 |⟨b',o,vs,f,ex,sd,hp2,he,hg2,ht,hlen,hx,_,hu⟩⟩:=ho
     .rw [h4.1] at hp;cases hp
     .cases hp.symm.trans hp2;exact hu rfl) hle hv
   |false=>
    obtain ⟨Pu1,h1,h2,h3⟩:=hs.U0 hg hl;refine ⟨Pu1,h1,h2,.aB ?_ (fun _ h=>by cases h) (fun h=>by cases h)⟩;obtain ⟨l2,hl2,ho2⟩:=h1.obj id (.arr et e xs w true em) (by rw [GH.ag,if_pos rfl]);cases hl.symm.trans hl2;exact mM ho2 h3 hle hv
  .cases h
 all_goals first
  |(cases h;exact ⟨Pu,hs,Ex.refl hs,hr⟩)
  |cases h
theorem iu (hs:au P hint sh Γ Pu H I) {l l':List TV} {vs:List Value} (h:ik l H=some (l',H1)) (hr:br Γ Pu I l vs):
  ∃ Pu1,au P hint sh Γ Pu1 H1 I/\Ex (bk Γ H I) Γ Pu H I Γ Pu1 H1 I/\br Γ Pu1 I l' vs:=by
 induction l generalizing l' vs H H1 Pu with
 |nil=>unfold ik at h;cases h;exact ⟨Pu,hs,Ex.refl hs,hr⟩
 |cons t r ih=>
  unfold ik at h;split at h
  .rename_i t' H2 h1
   split at h
   .rename_i r' H3 h2
    cases h;cases hr with |cons a b=>
    obtain ⟨Pu1,s1,e1,r1⟩:=Cj hs h1 a;obtain ⟨Pu2,s2,e2,r2⟩:=ih s1 h2 (b.mono (e1.cy hs));exact ⟨Pu2,s2,Ex.trans hs s1 e1 e2,.cons (r1.mono (e2.cy s1)) r2⟩
   .cases h
  .cases h
theorem zc {l l':List TV} (h:ik l H=some (l',H1)):l'.length=l.length:=by
 induction l generalizing l' H H1 with
 |nil=>unfold ik at h;cases h;rfl
 |cons t r ih=>
  unfold ik at h;split at h
  .split at h
   .rename_i h2;cases h;simp [ih h2]
   .cases h
  .cases h
end
end Go.Gv
