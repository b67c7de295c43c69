/- The pure evaluator's operations are the ideal one's (the fifth part): looks into lists, cuts, appends. -/
import Derived.Test.YteknbnkjelmfaaaGreatDoorGvOpsX
set_option linter.unusedSimpArgs false
set_option linter.unusedVariables false
namespace Go.Gv
open Go Go.Iv
section
variable {Z:Type} {P:Program} {hint:Hint} {sh:bU} {Γ Γ1:aN} {Pu Pu1:Nat->Prop} {H H1:GH} {I I1:IH} {K:TV->GH->Option Z} {r:Z}
theorem Gg (hs:au P hint sh Γ Pu H I) {t:TypeId} {x:TV} {x':Value} (h:MQ P H t x K=some r) (hx:GR Γ Pu I x x'):Good P hint sh K r Γ Pu H I (an (Iv.valOf I (fI P I t x'))):=by
 unfold MQ at h;split at h
 .rename_i s hu;cases hx;simp only [fI,hu,Iv.valOf,an];exact Good.same hs h (.int _ _)
 .rename_i n e hu;simp only [fI,hu,Iv.valOf,an];exact Good.same hs h (.int _ _)
 .rename_i e hu;cases hx;simp only [fI,hu,Iv.valOf,an];exact Good.same hs h (.int _ _)
 .rename_i e _ xs _ _ hu
  cases hx with |aB he _ _=>
  obtain ⟨⟨a,c,rfl⟩,_⟩:=he.H6;simp only [fI,hu,Iv.valOf,an];exact Good.same hs h (.int _ _)
 .rename_i e id hu
  cases hx with |all hl hv=>
  split at h
  .rename_i et e' xs w fz em hg
   obtain ⟨l',hl',ho⟩:=hs.obj _ _ hg;cases hl.symm.trans hl';obtain ⟨a,c,rfl,_⟩:=hv.some;have h1:=ho.1;simp only [fI,hu,Iv.valOf,an,h1];exact Good.same hs h (.int _ _)
  .cases h
 .rename_i e _ _ len hu
  cases hx with |own hl hle hv=>
  obtain ⟨a,c,rfl,_⟩:=hv.some;simp only [fI,hu,Iv.valOf,an];exact Good.same hs h (.int _ _)
 .rename_i k e hu;cases hx;simp only [fI,hu,Iv.valOf,an];exact Good.same hs h (.int _ _)
 .rename_i k e id hu
  cases hx with |mp hl hv=>
  split at h
  .rename_i kt gk ge ks es xs em hg
   obtain ⟨l',hl',ho⟩:=hs.obj _ _ hg;cases hl.symm.trans hl';unfold Oj at hv;rcases ho with ⟨_,⟨hp,hx,hem⟩ |⟨b,ents,ck,hp,hro,hne,hgb,hent⟩⟩
   .rw [hp] at hv;subst hv hx
    simp only [fI,hu,Iv.valOf,an];exact Good.same hs h (.int _ _)
   .rw [hp] at hv;subst hv
    simp only [fI,hu,hgb,hent.len,Iv.valOf,an];exact Good.same hs h (.int _ _)
  .cases h
 .cases h
theorem r9 {i:Int}:∀ {n:Nat} {K:Nat->Option Z},vv dS i n K=some r->∃ j:Nat,j<n/\i=(j:Int)/\K j=some r:=by
 intro n
 induction n with
 |zero=>intro K h;cases h
 |succ n ih=>
  intro K h;unfold vv at h;rcases jX h with ⟨h1,h2⟩ |⟨_,h2⟩
  .exact ⟨n,Nat.lt_succ_self n,by simpa using h1,h2⟩
  grind
theorem pF {i:Int} {n:Nat} (h0:0<=i) (h1:i.toNat<n):(0<=i &&i<(n:Int))=true:=by simp;omega
theorem bA.at {e:Sh} {xs:List e.ty} {v:Value} (h:bA Pu I (.bH e) xs [v]) {i:Nat} {x:e.ty} (hx:xs[i]? =some x):
  ∃ b off cap,v= .slice (some ⟨b,off,none⟩) xs.length cap/\GR Γ Pu I (.nL (e.cV x)) (.pointer (some ⟨b,off+i*e.sz,none⟩)):=by
 unfold bA at h;rcases h with ⟨h1,_⟩ |⟨b,off,cap,cs,et,fz,ex,sd,h,hb,hg,hc,hl,hxs⟩ |⟨h1,_⟩
 rotate_left 2
 .grind
 .grind
 .cases h
  have henc:=hxs i x hx;have hr:=henc.cV (Γ:=Γ);have h1:=hr.length;have h2:=henc.len;have hil:i<xs.length:=(List.getElem?_eq_some_iff.1 hx).1;have hb2:off+i*e.sz+e.sz<=cs.length:=by
   have:(i+1)*e.sz<=xs.length*e.sz:=Nat.mul_le_mul_right _ hil;rw [zaj,Nat.one_mul] at this;omega
  have h3:(e.cV x).length=e.sz:=by omega
  exact ⟨b,off,cap,rfl,.nL hb hg (by omega) (by rw [h3];exact hr)⟩
theorem LH {t:TV} {v:Value} (h:GR Γ Pu I t v):GR Γ Pu I (Ua t) v:=by
 cases h with
 |byte c=>exact .int _ _
 |int k n=>exact .int _ _
 |bool b=>exact .bool _
 |str s=>exact .str _
 |agg h=>exact .agg h
 |ja h=>exact .ja h
 |aB h a b=>exact .aB h a b
 |all h a=>exact .all h a
 |own h a b=>exact .own h a b
 |ptr h a=>exact .ptr h a
 |nL h a b c=>exact .nL h a b c
 |iO h a=>exact .iO h a
 |fn a c=>exact .fn a c
 |mo h a=>exact .mo h a
 |mp h a=>exact .mp h a
 |raw v=>exact .raw v
 |undef v=>exact .undef v
theorem nh (hs:au P hint sh Γ Pu H I) {t:TypeId} {x ix:TV} {x' ix':Value} (h:eP dS P sh H t x ix K=some r) (hx:GR Γ Pu I x x') (hi:GR Γ Pu I ix ix'):Good P hint sh K r Γ Pu H I (an (bm P I t x' ix')):=by
 unfold eP at h;split at h
 .rename_i n e id off _ i hu
  cases hi;cases hx with |ptr hl hp=>
  split at h
  .rename_i inf _ _ _ hinf hg
   replace h:=ad h;obtain ⟨_,h⟩:=h;replace h:=r9 h;obtain ⟨j,hj,rfl,h⟩:=h;simp only [bm,hu,hinf,pF (Int.natCast_nonneg j) (by simpa using hj),if_true,an,Int.toNat_natCast];exact Good.same hs h (.ptr hl hp)
  .rename_i inf et s xs w fz em hinf hg
   replace h:=ad h;obtain ⟨hb,h⟩:=h;replace hb:=ae hb;obtain ⟨hb1,hb2⟩:=hb;have e1:=beq_true hb1;have e2:=beq_true hb2;subst e2;replace h:=aE h;obtain ⟨hc,h⟩:=h;replace hc:=ae hc;obtain ⟨hc1,hc2⟩:=hc;have c1:=bM hc1;have c2:=ly hc2;obtain ⟨l',hl',ho⟩:=hs.obj _ _ hg;cases hl.symm.trans hl';simp only [bm,hu,hinf,pF c1 (show i.toNat<n by omega),if_true,an,Nat.zero_add];have:=GR.iO (Γ:=Γ) (Pu:=Pu) (I:=I) (i:=i.toNat) (off:=0) hl hp;rw [ho.2.1,e1,Nat.zero_add,Nat.add_zero] at this;exact Good.same hs h this
  .rename_i inf hinf hg
   split at h
   .rename_i T hT
    replace h:=ad h;obtain ⟨hb,h⟩:=h;replace hb:=ae hb;obtain ⟨hb,hb3⟩:=hb;replace hb:=ae hb;obtain ⟨hb1,hb2⟩:=hb;have e1:=beq_true hb1;have e2:=beq_true hb2;have e3:id<bI:=by simpa using hb3
    subst e2;replace h:=aE h;obtain ⟨hc,h⟩:=h;replace hc:=ae hc;obtain ⟨hc1,hc2⟩:=hc;have c1:=bM hc1;have c2:=ly hc2;replace h:=ef h;obtain ⟨y,hy,h⟩:=h;obtain ⟨hpu,vs,et,fz,ex,sd,hgb,_,_,hall⟩:=hs.FT id T e3 hT;obtain ⟨l0,hl0,hp0⟩:=hs.cq id e3;cases hl.symm.trans hl0;cases hp.symm.trans hp0;obtain ⟨hle,henc⟩:=hall i.toNat y hy;have hlen:=henc.len;have h3:(T.e.cV y).length=T.e.sz:=by
     have:=(henc.cV (Γ:=Γ)).length;omega
    simp only [bm,hu,hinf,pF c1 (show i.toNat<n by omega),if_true,an,Nat.zero_add];rw [←e1];exact Good.same hs h (.nL hpu hgb (by omega) (by rw [h3];exact henc.cV))
   .cases h
  .cases h
 .rename_i e s xs _ _ _ i hu
  cases hi;cases hx with |aB he _ _=>
  split at h
  .rename_i inf hinf
   replace h:=ad h;obtain ⟨hb,h⟩:=h;replace h:=aE h;obtain ⟨hc,h⟩:=h;replace h:=ef h;obtain ⟨y,hy,h⟩:=h;obtain ⟨b,off,cap,rfl,hr⟩:=he.at (Γ:=Γ) hy;have hlt:i.toNat<xs.length:=(List.getElem?_eq_some_iff.1 hy).1;simp only [bm,hu,hinf,pF (bM hc) hlt,if_true,an];rw [←beq_true hb];exact Good.same hs h hr
  .cases h
 .rename_i e id _ i hu
  cases hi;cases hx with |all hl hv=>
  split at h
  .rename_i inf et s xs w fz em hinf hg
   replace h:=ad h;obtain ⟨hb,h⟩:=h;replace h:=aE h;obtain ⟨hc,h⟩:=h;replace hc:=ae hc;obtain ⟨hc1,hc2⟩:=hc;have c1:=bM hc1;have c2:=ly hc2;obtain ⟨l',hl',ho⟩:=hs.obj _ _ hg;cases hl.symm.trans hl';have h1:=ho.1;have h2:=ho.2.1;have hlt:i.toNat<xs.length:=by omega
   unfold fF at hv;split at hv
   .omega
   .rename_i b o hp
    obtain ⟨cap,rfl,_⟩:=hv;have:=GR.iO (Γ:=Γ) (Pu:=Pu) (I:=I) (i:=i.toNat) (off:=0) hl hp;rw [Nat.add_zero,h2,beq_true hb] at this;simp only [bm,hu,hinf,h1,pF c1 hlt,if_true,an,Nat.zero_mul,Nat.add_zero];exact Good.same hs h this
  .cases h
 .rename_i e id off len _ i hu
  cases hi;cases hx with |own hl hle hv=>
  split at h
  .rename_i inf et s xs w fz em hinf hg
   replace h:=ad h;obtain ⟨hb,h⟩:=h;replace h:=aE h;obtain ⟨hc,h⟩:=h;replace hc:=ae hc;obtain ⟨hc1,hc2⟩:=hc;have c1:=bM hc1;have c2:=ly hc2;obtain ⟨l',hl',ho⟩:=hs.obj _ _ hg;cases hl.symm.trans hl';have h2:=ho.2.1;have hlt:i.toNat<len:=by omega
   unfold fF at hv;split at hv
   .omega
   .rename_i b o hp
    obtain ⟨cap,rfl,_⟩:=hv;have:=GR.iO (Γ:=Γ) (Pu:=Pu) (I:=I) (i:=off+i.toNat) (off:=0) hl hp;rw [Nat.add_zero,h2,beq_true hb,zaj,←Nat.add_assoc] at this;simp only [bm,hu,hinf,pF c1 hlt,if_true,an];rw [h2,beq_true hb];exact Good.same hs h this
  .cases h
 .cases h
theorem JT (hs:au P hint sh Γ Pu H I) {t:TypeId} {x ix:TV} {x' ix':Value} (h:Ak dS P H t x ix K=some r) (hx:GR Γ Pu I x x') (hi:GR Γ Pu I ix ix'):Good P hint sh K r Γ Pu H I (an (jg P I t x' ix')):=by
 unfold Ak at h;split at h
 .rename_i s _ i hu
  cases hi;cases hx;replace h:=aE h;obtain ⟨hc,h⟩:=h;replace h:=ef h;obtain ⟨y,hy,h⟩:=h;simp only [jg,hu,if_pos (bM hc),nx,hy,an];exact Good.same hs h (.byte _)
 .rename_i n e cs _ i hu
  cases hi;cases hx with |agg hr=>
  split at h
  .rename_i inf hinf
   replace h:=ad h;obtain ⟨_,h⟩:=h;replace h:=r9 h;obtain ⟨j,hj,rfl,h⟩:=h;split at h
   .rename_i v hv
    obtain ⟨v',hp,hr'⟩:=CR (P:=P) hr hv;simp only [jg,hu,hinf,pF (Int.natCast_nonneg j) (by simpa using hj),if_true,Int.toNat_natCast,hp,Iv.valOf,an];exact Good.same hs h hr'
   .cases h
  .cases h
 .cases h
theorem AQ (hs:au P hint sh Γ Pu H I) {x:TV} {x':Value} {i:Nat} (h:pN H x i K=some r) (hx:GR Γ Pu I x x'):Good P hint sh K r Γ Pu H I (an (fO I x' i)):=by
 unfold pN at h;split at h
 .cases hx with |ja hr=>
  split at h
  .rename_i v hv
   obtain ⟨v',h1,h2⟩:=hr.get hv;simp only [fO,h1,Iv.valOf,an];exact Good.same hs h h2
  .cases h
 .cases h
theorem Kh (hs:au P hint sh Γ Pu H I) {c a b:TV} {c' a' b':Value} (h:F4 H c a b K=some r) (hc:GR Γ Pu I c c') (ha:GR Γ Pu I a a') (hb:GR Γ Pu I b b'):Good P hint sh K r Γ Pu H I (an (nZ I c' a' b')):=by
 unfold F4 at h;split at h
 .rename_i t
  cases hc;simp only [nZ,an];split at h
  .cases ha;cases hb
   cases t
   .exact Good.same hs h (.bool _)
   .exact Good.same hs h (.bool _)
  .cases t
   .exact Good.same hs h hb
   .exact Good.same hs h ha
 .cases h
theorem LF {y:Nat} {t:TV} {v:Value} {c:Bool} {n:Nat} (h:DH y t=some (c,n)) (hc:c=true) (hr:GR Γ Pu I t v):bound y v=some n/\n<=y:=by
 unfold DH at h;split at h
 .cases hr;cases h
  rename_i k i;replace hc:=ae hc;obtain ⟨h1,h2⟩:=hc;have a1:=bM h1;have a2:=bM h2;refine ⟨?_,by omega⟩;unfold bound
  grind
 .cases h
inductive dW (Γ:aN) (Pu:Nat->Prop) (I:IH):Option TV->Option Value->Prop
 |none:dW Γ Pu I none none
 |some {t:TV} {v:Value}:GR Γ Pu I t v->dW Γ Pu I (some t) (some v)
theorem xI {y d:Nat} (hd:d<=y) {t:Option TV} {v:Option Value} {c:Bool} {n:Nat} (h:tB y d t=some (c,n)) (hc:c=true) (hr:dW Γ Pu I t v):bw y d v=some n/\n<=y:=by
 cases hr with
 |none=>unfold tB at h;cases h;exact ⟨rfl,hd⟩
 |some hr=>exact LF h hc hr
theorem fm {len:Nat} {lo hi:Option TV} {lo' hi':Option Value} {K:Nat->Nat->Option Z} (h:kK dS len lo hi K=some r) (hlo:dW Γ Pu I lo lo') (hhi:dW Γ Pu I hi hi'):
  ∃ l u,bw len len hi'=some u/\bw u 0 lo'=some l/\l<=u/\u<=len/\K l u=some r:=by
 unfold kK at h;split at h
 .rename_i c u hu
  replace h:=aE h;obtain ⟨hc,h⟩:=h;obtain ⟨h1,h2⟩:=xI (zal _) hu hc hhi;split at h
  .rename_i d l hl
   replace h:=aE h;obtain ⟨hd,h⟩:=h;obtain ⟨h3,h4⟩:=xI (Nat.zero_le _) hl hd hlo
   grind
  .cases h
 .cases h
theorem Bo {y y' d:Nat} (hy:y<=y') {v:Option Value} {n:Nat} (h:bw y d v=some n):bw y' d v=some n:=by
 cases v with
 |none=>exact h
 |some v=>
  unfold bw bound at h ⊢
  grind
theorem kJ {b off sz len cap l u tot:Nat} {lo' hi':Option Value} (h1:bw len len hi'=some u) (h2:bw u 0 lo'=some l) (hul:u<=len) (hlu:l<=u) (hc:je cap sz len off tot):
  ∃ cap',bG (some ⟨b,off,none⟩) sz len cap lo' hi' none=some (.slice (some ⟨b,off+l*sz,none⟩) (u - l) cap')/\je cap' sz (u - l) (off+l*sz) tot:=by
 rcases hc with rfl |⟨c1,c2,c3⟩
 .refine ⟨ff+sz,?_,.inl rfl⟩
  unfold bG
  grind
 .refine ⟨cap - l,?_,.inr ⟨by omega,by omega,?_⟩⟩
  .unfold bG
   simp only [if_neg (Nat.not_le_of_lt c1)];have:bw cap len hi'=some u:=Bo c2 h1
   grind
  .rw [Nat.sub_mul]
   have:l*sz<=cap*sz:=Nat.mul_le_mul_right _ (by omega);omega
theorem Iz (hs:au P hint sh Γ Pu H I) {t:TypeId} {x:TV} {x':Value} {lo hi mx:Option TV} {lo' hi' mx':Option Value} (h:ED dS P H t x lo hi mx K=some r) (hx:GR Γ Pu I x x') (hlo:dW Γ Pu I lo lo') (hhi:dW Γ Pu I hi hi') (hmx:dW Γ Pu I mx mx'):
  Good P hint sh K r Γ Pu H I (an (cU P I t x' lo' hi' mx')):=by
 unfold ED at h;split at h
 .rename_i s hu
  cases hx;cases hmx;obtain ⟨l,u,h1,h2,h3,h4,h5⟩:=fm h hlo hhi;have h1':bw (ba s).size (ba s).size hi'=some u:=h1;simp only [cU,hu,h1',h2,nx,an];exact Good.same hs h5 (.str _)
 .rename_i e hu
  cases hx;cases hmx;split at h
  .rename_i i hi
   obtain ⟨l,u,h1,h2,h3,h4,h5⟩:=fm h hlo hhi;have h0:u=0:=by omega
   subst h0;have h6:bw 0 0 hi'=some 0:=h1;simp only [cU,hu,hi,bG,h6,h2,an];exact Good.same hs h5 (.raw _)
  .cases h
 .rename_i e s xs nl cl hu
  cases hmx;cases hx with |aB he hn _=>
  split at h
  .rename_i i hi
   replace h:=ad h;obtain ⟨hb,h⟩:=h;have hsz:=beq_true hb;obtain ⟨l,u,h1,h2,h3,h4,h5⟩:=fm h hlo hhi;have he0:=he;unfold bA at he;rcases he with ⟨rfl,he⟩ |⟨b,off,cap,cs,et,fz,ex,sd,he,hb,hg,hc,hl,hxs⟩ |⟨rfl,b,he⟩
   rotate_left 2
   .cases he
    have h0:u=0:=by have:u<=0:=h4;omega
    subst h0;have h6:bw 0 0 hi'=some 0:=h1;have h7:l=0:=by omega
    subst h7;have h8:bG (some ⟨b,0,none⟩) i.size 0 0 lo' hi' none=some (.slice (some ⟨b,0,none⟩) 0 0):=by
     unfold bG;rw [if_neg (by unfold ff;omega),h6];simp only [h2];simp;exact fun h=>absurd h (by unfold ff;omega)
    simp only [cU,hu,hi,zah,h8,an];exact Good.same hs h5 (.aB (.inr (.inr ⟨by simp,b,rfl⟩)) hn (fun h=>by cases h))
   .cases he
    have h0:u=0:=by have:u<=0:=h4;omega
    subst h0;have h6:bw 0 0 hi'=some 0:=h1;simp only [cU,hu,hi,bG,h6,h2,an];have h7:l=0:=by omega
    subst h7;exact Good.same hs h5 (.aB (.inl ⟨by simp,rfl⟩) hn (fun h=>by cases h))
   .cases he
    obtain ⟨cap',e1,e2⟩:=kJ (b:=b) (tot:=cs.length) h1 h2 h4 h3 (hsz▸hc);simp only [cU,hu,hi,e1,an];have hlen:((xs.drop l).take (u - l)).length=u - l:=by simp;omega
    refine Good.same hs h5 (.aB (.inr (.inl ⟨b,off+l*s.sz,cap',cs,et,fz,ex,sd,?_,hb,hg,?_,?_,?_⟩)) (fun c hc=>hn c hc) (fun h=>by cases h))
    .rw [hlen,hsz]
    .rw [hlen,hsz];exact e2
    .rw [hlen]
     have:(l+(u - l))*s.sz<=xs.length*s.sz:=Nat.mul_le_mul_right _ (by omega);rw [zaj] at this;omega
    grind
  .cases h
 .rename_i e id hu
  cases hmx;cases hx with |all hl hv=>
  split at h
  .rename_i i et s xs w fz em hi hg
   replace h:=ad h;obtain ⟨hb,h⟩:=h;have hsz:=beq_true hb;obtain ⟨l,u,h1,h2,h3,h4,h5⟩:=fm h hlo hhi;obtain ⟨l',hl',ho⟩:=hs.obj _ _ hg;cases hl.symm.trans hl';have o1:=ho.1;have o2:=ho.2.1;unfold fF at hv;split at hv
   .rename_i hp
    obtain ⟨rfl,h0⟩:=hv;have hu0:u=0:=by omega
    subst hu0;have h6:bw 0 0 hi'=some 0:=by rw [←o1,h0] at h1;exact h1
    simp only [cU,hu,hi,bG,h6,h2,an];exact Good.same hs h5 (.own hl (by omega) (by unfold fF;grind))
   .rename_i b o hp
    obtain ⟨cap,rfl,hc⟩:=hv;rw [←o1] at h1 h4;obtain ⟨cap',e1,e2⟩:=kJ (b:=b) h1 h2 h4 h3 (by rw [o2,hsz] at hc;exact hc);simp only [cU,hu,hi];rw [o2,hsz,e1];simp only [an];refine Good.same hs h5 (.own hl (by omega) ?_);unfold fF;grind
  .cases h
 .rename_i e id off len hu
  cases hmx;cases hx with |own hl hle hv=>
  split at h
  .rename_i i et s xs w fz em hi hg
   replace h:=ad h;obtain ⟨hb,h⟩:=h;have hsz:=beq_true hb;obtain ⟨l,u,h1,h2,h3,h4,h5⟩:=fm h hlo hhi;obtain ⟨l',hl',ho⟩:=hs.obj _ _ hg;cases hl.symm.trans hl';have o2:=ho.2.1;unfold fF at hv;split at hv
   .rename_i hp
    obtain ⟨rfl,h0⟩:=hv;subst h0;have hu0:u=0:=by omega
    subst hu0;have h6:bw 0 0 hi'=some 0:=h1;simp only [cU,hu,hi,bG,h6,h2,an];exact Good.same hs h5 (.own hl (by omega) (by unfold fF;grind))
   .rename_i b o hp
    obtain ⟨cap,rfl,hc⟩:=hv;obtain ⟨cap',e1,e2⟩:=kJ (b:=b) h1 h2 h4 h3 (by rw [o2,hsz] at hc;exact hc);simp only [cU,hu,hi];rw [o2,hsz,e1];simp only [an];refine Good.same hs h5 (.own hl (by omega) ?_);unfold fF;grind
  .cases h
 .rename_i e s xs nl cl k hu
  split at h
  .rename_i i k2 hi
   replace h:=ad h;obtain ⟨hb,h⟩:=h;have hsz:=beq_true hb;cases hlo;cases hhi with |some hhi=>
   cases hmx with |some hmx=>
   cases hhi;cases hmx;cases hx with |aB he hn _=>
   have key:sY x'=false->∀ nl',(∀ c,nl'=some c->sY x'=c)->K (.aB s [] nl' true) H=some r->Good P hint sh K r Γ Pu H I (an (cU P I t x' none (some (.int k2 (.ofNat 0))) (some (.int k (.ofNat 0))))):=by
    intro hnn nl' hn' h;unfold bA at he;rcases he with ⟨h1,he⟩ |⟨b,off,cap,cs,et,fz,ex,sd,he,hb,hg,hc,hl,hxs⟩ |⟨h1,b,he⟩
    .cases he;cases hnn
    rotate_left 1
    .cases he
     have hK:=h;subst h1;have:bG (some ⟨b,0,none⟩) i.size 0 0 none (some (.int k2 (.ofNat 0))) (some (.int k (.ofNat 0)))=some (.slice (some ⟨b,0+0*i.size,none⟩) (0 - 0) (0 - 0)):=by
      unfold bG;have b0:∀ y:Nat,bound y (.int k (.ofNat 0))=some 0:=fun y=>by rfl
      have b1:∀ y:Nat,bound y (.int k2 (.ofNat 0))=some 0:=fun y=>by rfl
      simp only [b0,b1];rw [if_pos (by unfold ff;omega)];rfl
     simp only [cU,hu,hi,zah,this,an];refine Good.same hs hK (.aB (.inr (.inr ⟨rfl,b,by rw [Nat.zero_mul]⟩)) (fun c hc=>hn' c hc) (fun _=>⟨rfl,rfl⟩))
    .cases he
     have:bG (some ⟨b,off,none⟩) i.size xs.length cap none (some (.int k2 (.ofNat 0))) (some (.int k (.ofNat 0)))=some (.slice (some ⟨b,off+0*i.size,none⟩) (0 - 0) (0 - 0)):=by
      unfold bG;have b0:∀ y:Nat,bound y (.int k (.ofNat 0))=some 0:=fun y=>by rfl
      have b1:∀ y:Nat,bound y (.int k2 (.ofNat 0))=some 0:=fun y=>by rfl
      simp only [b0,b1];rw [if_pos (by unfold ff;omega)];rfl
     simp only [cU,hu,hi,this,an];refine Good.same hs h (.aB (.inr (.inl ⟨b,off+0*i.size,0,cs,et,fz,ex,sd,rfl,hb,hg,.inr ⟨by unfold ff;omega,zal _,by simp;omega⟩,by simp;omega,fun i x h=>by cases h⟩)) (fun c hc=>hn' c hc) (fun _=>⟨rfl,rfl⟩))
   split at h
   .grind
   .replace h:=aE h;obtain ⟨hx,h⟩:=h
    refine key ?_ _ (fun c hc=>by cases hc) h;obtain ⟨_,_,_,_,h1,_⟩:=lH he
    grind
  .cases h
 .cases h
end
end Go.Gv
/- The pure evaluator's operations are the ideal one's (the sixth part): appends. -/
namespace Go.Gv
open Go Go.Iv
section
variable {Z:Type} {P:Program} {hint:Hint} {sh:bU} {O:Nat->Prop} {Γ Γ1:aN} {Pu Pu1:Nat->Prop} {H H1:GH} {I I1 I2:IH} {K:TV->GH->Option Z} {r:Z}
theorem Ex.wa (h:Ex O Γ Pu H I Γ1 Pu1 H1 I1) (hg:∀ b,I2.get b=I1.get b) (hn:I2.n=I1.n):Ex O Γ Pu H I Γ1 Pu1 H1 I2:=
 ⟨h.g,h.hn,hn▸h.n,h.p,fun b hb ho=>(hg b).trans (h.cE b hb ho),(fun b hb x=>h.own b hb (pf (fun _ _ _ b _ _ _ _ _=>hg b) x)),h.pn,h.ck,h.wx,fun id l b x s a b' c d=>(hg b).trans (h.jv id l b x s a b' c d)⟩
theorem H5:∀ (vs bs:List Value) (a k m:Nat),k+m<=vs.length->a+vs.length<=bs.length->((aA bs a vs).drop (a+k)).take m=(vs.drop k).take m:=by
 intro vs
 induction vs with
 |nil=>grind
 |cons v vs ih=>
  intro bs a k m h1 h2;simp only [zad] at h1 h2;simp only [aA];cases k with
  |succ k=>
   have:=ih (bs.set a v) (a+1) k m (by omega) (by simp;omega)
   grind
  |zero=>
   cases m with
   |zero=>simp
   |succ m=>
    have h3:=ih (bs.set a v) (a+1) 0 m (by omega) (by simp;omega);have h4:=j9 vs (bs.set a v) a (a+1) 1 (by omega);have h5:a<(aA (bs.set a v) (a+1) vs).length:=by rw [aM];simp;omega
    simp only [Nat.add_zero] at h3 ⊢;rw [List.drop_eq_getElem_cons h5,List.drop_eq_getElem_cons (show a<(bs.set a v).length by simp;omega)] at h4;rw [List.drop_eq_getElem_cons h5]
    grind
theorem Row.Tv {e:Sh} {xs ys:List e.ty} {vs:List Value} {a:Nat} (h:Row Pu I e xs vs a) (k:Row Pu I e ys vs (a+xs.length*e.sz)):Row Pu I e (xs++ys) vs a:=by
 intro i x hi;rcases Nat.lt_or_ge i xs.length with hlt |hge
 .rw [List.getElem?_append_left hlt] at hi;exact h i x hi
 .rw [List.getElem?_append_right hge] at hi
  have:=k _ x hi;have e1:a+xs.length*e.sz+(i - xs.length)*e.sz=a+i*e.sz:=by
   have:xs.length*e.sz<=i*e.sz:=Nat.mul_le_mul_right _ hge;rw [Nat.sub_mul];omega
  rwa [e1] at this
noncomputable def fY (I:IH) (e:TypeId) (size bytes n:Nat) (new:List Value) (s:Value):Option az:=
 if n=0 then match s with
  | .slice a l c=>some (.val (.slice a l c) I)
  |_=>none
 else cJ I e size bytes n new s
theorem kL (hs:au P hint sh Γ Pu H I) {e:TypeId} {sp:Sh} {ys:List sp.ty} {cs:List Value} (hsz:0<sp.sz) (hlen:cs.length=ys.length*sp.sz) (hrow:Row Pu I sp ys cs 0) (w:Bool) (em:Em) (f:Nat) (hf:f<=ys.length*sp.sz) (hfw:w=true->f=0) (hem:em= .ex->ys≠ []) (cap:Nat) (hcap:je cap sp.sz ys.length 0 cs.length) (ex:Bool):
  au P hint sh (Γ.up H.n ⟨some (I.n,0),ys.length,sp.sz,cs.length⟩) Pu (H.new (.arr e sp ys w false em)) (I.new (.cells cs e f ex false))/\
   Ex (bk Γ H I) Γ Pu H I (Γ.up H.n ⟨some (I.n,0),ys.length,sp.sz,cs.length⟩) Pu (H.new (.arr e sp ys w false em)) (I.new (.cells cs e f ex false))/\
   GR (Γ.up H.n ⟨some (I.n,0),ys.length,sp.sz,cs.length⟩) Pu (I.new (.cells cs e f ex false)) (.all H.n) (.slice (some ⟨I.n,0,none⟩) ys.length cap):=by
 have hk:=jR hs ⟨some (I.n,0),ys.length,sp.sz,cs.length⟩ (.cells cs e f ex false)
 obtain ⟨s1,e1⟩:=hs.new (.arr e sp ys w false em) (.cells cs e f ex false) ⟨some (I.n,0),ys.length,sp.sz,cs.length⟩ 0 rfl
  ⟨rfl,rfl,hsz,.inr ⟨I.n,0,cs,f,ex,false,rfl,hem,by rw [IH.ay,if_pos rfl],rfl,by omega,fun i x hi=>(hrow i x hi).mono hk.p hk.i,fun _=>⟨hs.ro,rfl,by omega,fun h=>by grind⟩,fun h=>by cases h⟩⟩
 refine ⟨s1,e1,.all (l:=⟨some (I.n,0),ys.length,sp.sz,cs.length⟩) (by simp [aN.up]) ?_⟩;exact ⟨cap,by simp,by simpa using hcap⟩
theorem Dh (hs:au P hint sh Γ Pu H I) {id:Nat} {e:TypeId} {sp:Sh} {xs ys:List sp.ty} {w:Bool} {em em':Em} {l:Loc} {off len n bytes:Nat} {v:Value} {cs:List Value}
  (hg:H.get id=some (.arr e sp xs w false em)) (hl:Γ id=some l) (hv:fF l off len v) (hle:off+len<=xs.length) (hw:w=true\/off+len=xs.length)
  (hn:n=ys.length) (hlen:cs.length=ys.length*sp.sz) (hrow:Row Pu I sp ys cs 0) (hroom:(len+ys.length)*(bytes+1)<=roomy)
  (c1:l.pos=none->ys= []->em'≠ .no) (c2:em'= .ex->l.pos≠none->len+ys.length≠0):
  ∃ Γ1 v' I1,fY I e sp.sz bytes n cs v=some (.val v' I1)/\au P hint sh Γ1 Pu ((H.del id).new (.arr e sp ((xs.drop off).take len++ys) w false em')) I1/\
   Ex (bk Γ H I) Γ Pu H I Γ1 Pu ((H.del id).new (.arr e sp ((xs.drop off).take len++ys) w false em')) I1/\GR Γ1 Pu I1 (.all H.n) v':=by
 subst hn;obtain ⟨l',hl',ho⟩:=hs.obj _ _ hg;cases hl.symm.trans hl';obtain ⟨o1,o2,o3,o4⟩:=ho;obtain ⟨s1,e1⟩:=hs.drop id;have hzl:((xs.drop off).take len).length=len:=by simp;omega
 have hones:=hrow.zn hlen;rcases o4 with ⟨hp,hx,hem⟩ |⟨b,o,vs,f,ex,sd,hp,he,hgb,ht,hbl,hrows,hfz,_⟩
 .-- nowhere
  unfold fF at hv;rw [hp] at hv;obtain ⟨rfl,rfl⟩:=hv;subst hx;simp only [zah] at hle;have h0:off=0:=by omega
  subst h0;simp only [List.drop_nil,List.take_nil,List.nil_append] at hzl ⊢;by_cases hy:ys.length=0
  .have hy':ys= []:=List.eq_nil_of_length_eq_zero hy
   subst hy';obtain ⟨s2,e2⟩:=s1.K5 (.arr e sp [] w false em') ⟨none,0,sp.sz,0⟩ rfl ⟨rfl,rfl,o3,.inl ⟨rfl,rfl,c1 hp rfl⟩⟩;refine ⟨_,.slice none 0 0,I,by simp [fY],s2,Ex.trans hs s1 e1 e2,.all (l:=⟨none,0,sp.sz,0⟩) (by simp [aN.up,GH.del]) ⟨rfl,rfl⟩⟩
  .obtain ⟨s2,e2,r2⟩:=kL s1 (e:=e) (ys:=ys) (cs:=cs) o3 hlen hrow w em' 0 (Nat.zero_le _) (fun _=>rfl) (fun _ h=>hy (by rw [h];rfl)) (ff+sp.sz) (.inl rfl) false
   refine ⟨_,_,_,?_,s2,Ex.trans hs s1 e1 e2,r2⟩;simp only [fY,if_neg hy,cJ]
   grind
 .unfold fF at hv;rw [hp] at hv
  obtain ⟨cap,rfl,hcap⟩:=hv;rw [o2,←ht] at hcap;obtain ⟨w1,w2,w3,w4⟩:=hfz rfl;subst w2;have hown:bk Γ H I b:=(.pos hg rfl hl hp);have hno:=hs.free hg rfl hl hp;have hnp:=hs.sep b hown;have hblt:=hs.bJ hown;have hrw:Row Pu I sp xs vs o:=hrows;have hpart:Row Pu I sp ((xs.drop off).take len) vs (o+off*sp.sz):=hrw.part off len;have hol:o+off*sp.sz+len*sp.sz<=vs.length:=by
   have:(off+len)*sp.sz<=xs.length*sp.sz:=Nat.mul_le_mul_right _ hle;rw [zaj] at this;omega
  have hfl:f<=o+off*sp.sz+len*sp.sz:=by
   rcases hw with h |h
   .grind
   .rw [←h,zaj] at w3;omega
  have Gp:∀ (zs:List sp.ty) (io:List Value) (cap':Nat),zs=(xs.drop off).take len++ys->io.length=vs.length->o+off*sp.sz+zs.length*sp.sz<=io.length->Row Pu I sp zs io (o+off*sp.sz)->(w=true->f<=o)->je cap' sp.sz zs.length (o+off*sp.sz) vs.length->
    au P hint sh (Γ.up H.n ⟨some (b,o+off*sp.sz),zs.length,sp.sz,vs.length⟩) Pu ((H.del id).new (.arr e sp zs w false em')) (I.put b (.cells io e f ex false))/\
    Ex (bk Γ H I) Γ Pu H I (Γ.up H.n ⟨some (b,o+off*sp.sz),zs.length,sp.sz,vs.length⟩) Pu ((H.del id).new (.arr e sp zs w false em')) (I.put b (.cells io e f ex false))/\
    GR (Γ.up H.n ⟨some (b,o+off*sp.sz),zs.length,sp.sz,vs.length⟩) Pu (I.put b (.cells io e f ex false)) (.all H.n) (.slice (some ⟨b,o+off*sp.sz,none⟩) zs.length cap'):=by
   intro zs io cap' hz hio hzb hzr hww hc';have hzlen:zs.length=len+ys.length:=by rw [hz,zaf,hzl]
   have hk:cp Γ Pu I (Γ.up H.n ⟨some (b,o+off*sp.sz),zs.length,sp.sz,vs.length⟩) Pu (I.put b (.cells io e f ex false)):=
    ⟨fun _ _ h=>aN.dm hs h,fun _ h=>h,fun b' hb'=>by rw [IH.ag,if_neg (by grind)]⟩
   obtain ⟨s2,e2⟩:=s1.Gp hno hnp hblt (.arr e sp zs w false em') (.cells io e f ex false) ⟨some (b,o+off*sp.sz),zs.length,sp.sz,vs.length⟩ (o+off*sp.sz) rfl
    ⟨rfl,rfl,o3,.inr ⟨b,o+off*sp.sz,io,f,ex,false,rfl,fun h=>by
     grind,by rw [IH.ag,if_pos rfl],hio,hzb,fun i x hi=>(hzr i x hi).mono hk.p hk.i,fun _=>⟨w1,rfl,by rw [hzlen,zaj];omega,fun h=>by grind⟩,fun h=>by cases h⟩⟩
   refine ⟨s2,Ex.qI hs e1 e2 ?_,.all (l:=⟨some (b,o+off*sp.sz),zs.length,sp.sz,vs.length⟩) (by simp [aN.up]) ?_⟩
   .intro b' hb' hh
    rcases hh with hh |hh
    .exact e1.own b' hb' hh
    .rcases hh with ⟨y,hh⟩ |hh
     .grind
     .exact absurd hh (fun h=>h)
   .exact ⟨cap',by simp,by simpa using hc'⟩
  by_cases hy:ys.length=0
  .have hy':ys= []:=List.eq_nil_of_length_eq_zero hy
   subst hy';have hself:∀ k,I.get k=(I.put b (.cells vs e f ex false)).get k:=fun k=>(IH.pJ I hgb k).symm
   obtain ⟨s2,e2,r2⟩:=Gp ((xs.drop off).take len++ []) vs cap rfl rfl (by simp only [List.append_nil,hzl];omega) (by simpa using hpart) w4 (by simpa only [List.append_nil,hzl] using hcap);refine ⟨_,.slice (some ⟨b,o+off*l.sz,none⟩) len cap,I,by simp [fY],s2.wa hself rfl,e2.wa hself rfl,?_⟩;have r3:=r2.mono (Γ':=Γ.up H.n ⟨some (b,o+off*sp.sz),((xs.drop off).take len++ []).length,sp.sz,vs.length⟩) (Pu':=Pu) (I':=I) ⟨fun _ _ h=>h,fun _ h=>h,fun k _=>hself k⟩
   grind
  .rw [o2]
   simp only [fY,if_neg hy,cJ,if_pos hroom];rcases hcap with rfl |⟨k1,k2,k3⟩
   .-- it grows
    rw [if_pos (Nat.le_add_right _ _),hgb];simp only;rw [if_pos (by simp [w1,hol,hfl])];obtain ⟨s2,e2⟩:=s1.kill hno hnp;have hkk:cp Γ Pu I Γ Pu (I.del b):=⟨fun _ _ h=>h,fun _ h=>h,fun b' hb'=>by rw [IH.cf,if_neg (by rintro rfl;exact hnp hb')]⟩;have hcut:Row Pu I sp ((xs.drop off).take len) ((vs.drop (o+off*sp.sz)).take (len*sp.sz)) 0:=hpart.cut len (by omega);have hcl:((vs.drop (o+off*sp.sz)).take (len*sp.sz)).length=((xs.drop off).take len).length*sp.sz:=by rw [hzl];simp;omega
    have hall:=hcut.app hrow hcl;have hlen2:((vs.drop (o+off*sp.sz)).take (len*sp.sz)++cs).length=((xs.drop off).take len++ys).length*sp.sz:=by
     rw [zaf,zaf,hcl,hlen,zaj]
    obtain ⟨s3,e3,r3⟩:=kL s2 (e:=e) (ys:=(xs.drop off).take len++ys) (cs:=(vs.drop (o+off*sp.sz)).take (len*sp.sz)++cs) o3 hlen2 (hall.mono hkk) w em' (f - (o+off*sp.sz)) (by rw [zaf,hzl,zaj];omega) (fun h=>by have:=w4 h;omega)
     (fun _ h=>hy (by have:=congrArg List.length h;rw [zaf] at this;simp only [zah] at this;omega)) (ff+sp.sz) (.inl rfl) false
    rw [zaf,hzl] at s3 e3 r3;refine ⟨_,_,_,rfl,s3,?_,r3⟩;refine Ex.qI hs e1 (Ex.trans s1 s2 e2 e3) ?_;intro b' hb' hh;rcases hh with hh |hh
    .exact e1.own b' hb' hh
    grind
   .rw [if_neg (Nat.not_le_of_lt k1)]
    by_cases hroomy:len+ys.length<=cap
    .-- in its place
     rw [if_pos hroomy];have hfit:o+off*sp.sz+len*sp.sz+cs.length<=vs.length:=by
      have:(len+ys.length)*sp.sz<=cap*sp.sz:=Nat.mul_le_mul_right _ hroomy;rw [zaj] at this;omega
     have hne:cs≠ []:=by
      intro h0;have h1:=Nat.mul_pos (Nat.pos_of_ne_zero hy) o3;rw [←hlen,h0] at h1;exact absurd h1 (by simp)
     rw [iJ hgb w1 hfl hfit hones hne];have hrow2:Row Pu I sp ((xs.drop off).take len++ys) (aA vs (o+off*sp.sz+len*sp.sz) cs) (o+off*sp.sz):=by
      apply Row.Tv
      .intro i x hi
       have hil:i<len:=by rw [←hzl];exact (List.getElem?_eq_some_iff.1 hi).1
       rw [j9]
       .exact hpart i x hi
       .left
        have:(i+1)*sp.sz<=len*sp.sz:=Nat.mul_le_mul_right _ hil;rw [zaj,Nat.one_mul] at this;omega
      .intro i x hi
       have hil:i<ys.length:=(List.getElem?_eq_some_iff.1 hi).1;rw [hzl,H5 _ _ _ _ _ (by
        rw [hlen];have:(i+1)*sp.sz<=ys.length*sp.sz:=Nat.mul_le_mul_right _ hil;rw [zaj,Nat.one_mul] at this;omega) hfit]
       have:=hrow i x hi
       rwa [Nat.zero_add] at this
     obtain ⟨s2,e2,r2⟩:=Gp ((xs.drop off).take len++ys) (aA vs (o+off*sp.sz+len*sp.sz) cs) cap rfl (aM _ _ _) (by rw [zaf,hzl,aM,zaj];omega) hrow2 w4 (.inr ⟨k1,by rw [zaf,hzl];exact hroomy,k3⟩)
     grind
    .-- it is copied
     rw [if_neg hroomy];have hca:I.bf b (o+off*sp.sz) (len*sp.sz)=some ((vs.drop (o+off*sp.sz)).take (len*sp.sz)):=by
      unfold IH.bf;rw [hgb];simp only;rw [if_pos hol]
     have hca2:(if len=0 then some [] else I.bf b (o+off*sp.sz) (len*sp.sz))=some ((vs.drop (o+off*sp.sz)).take (len*sp.sz)):=by
      by_cases hl0:len=0
      .simp_all
      .grind
     rw [hca2];have hcut:Row Pu I sp ((xs.drop off).take len) ((vs.drop (o+off*sp.sz)).take (len*sp.sz)) 0:=hpart.cut len (by omega);have hcl:((vs.drop (o+off*sp.sz)).take (len*sp.sz)).length=((xs.drop off).take len).length*sp.sz:=by rw [hzl];simp;omega
     have hall:=hcut.app hrow hcl;have hlen2:((vs.drop (o+off*sp.sz)).take (len*sp.sz)++cs).length=((xs.drop off).take len++ys).length*sp.sz:=by
      rw [zaf,zaf,hcl,hlen,zaj]
     obtain ⟨s3,e3,r3⟩:=kL s1 (e:=e) (ys:=(xs.drop off).take len++ys) (cs:=(vs.drop (o+off*sp.sz)).take (len*sp.sz)++cs) o3 hlen2 hall w em' 0 (Nat.zero_le _) (fun _=>rfl)
      (fun _ h=>hy (by grind)) (ff+sp.sz) (.inl rfl) false
     rw [zaf,hzl] at s3 e3 r3;exact ⟨_,_,_,rfl,s3,Ex.trans hs s1 e1 e3,r3⟩
theorem lJ {argTypes:Array TypeId} {t xt e:TypeId} {i:TypeInfo} {z:Value} {n:Nat} {s x:Value} {cs:List Value} (h0:argTypes[0]? =some t) (h1:argTypes[1]? =some xt) (h2:isInt P xt=false) (h3:cu P t=some (e,i)) (h4:fj x=some n) (h5:zeroOf P e=some z)
  (h6:bD I i.size n x=some cs) (h7:0<i.size) (h8:z.cells.size=i.size) (h9:cs.length=n*i.size) (h10:cs.all Iv.one=true):iC P I argTypes s x=fY I e i.size i.bytes n cs s:=by
 simp only [iC,h0,h1,h2,Bool.false_eq_true,if_false,h3,h4,h5,h6];rw [if_pos (by grind)];rfl
theorem nz {sh:bU} (hs:au P hint sh Γ Pu H I) {argTypes:Array TypeId} {s x:TV} {s' x':Value} (h:oM dS P sh H argTypes s x K=some r) (hsr:GR Γ Pu I s s') (hxr:GR Γ Pu I x x'):Good P hint sh K r Γ Pu H I (an (iC P I argTypes s' x')):=by
 unfold oM at h;split at h
 .rename_i t xt h0 h1
  split at h
  .cases h
  .rename_i h2
   split at h
   .rename_i e i h3
    split at h
    .rename_i z sp h5 hsp
     replace h:=ad h;obtain ⟨hb,h⟩:=h;replace hb:=ae hb;obtain ⟨hb,hb3⟩:=hb;replace hb:=ae hb;obtain ⟨hb1,hb2⟩:=hb;have k1:=aF hb1;have k2:=beq_true hb2;have k3:=beq_true hb3;split at h
     .rename_i ys hys
      obtain ⟨n,cs,p1,p2,p3,p4,p5,p6⟩:=uy hs hys hxr;subst p2;rw [k3] at p3 p4;have hones:=p5.zn (by rw [k3];exact p4);rw [lJ h0 h1 (by simpa using h2) h3 p1 h5 p3 k1 k2 p4 hones];have p4':cs.length=ys.length*sp.sz:=by rw [k3];exact p4
      split at h
      .-- onto nil
       cases hsr;replace h:=aE h;obtain ⟨hr,h⟩:=h;have hroom:=aF hr;by_cases hy:ys.length=0
       .have hy':ys= []:=List.eq_nil_of_length_eq_zero hy
        subst hy';obtain ⟨s2,e2⟩:=hs.K5 (.arr e sp [] true false .ex) ⟨none,0,sp.sz,0⟩ rfl ⟨rfl,rfl,by omega,.inl ⟨rfl,rfl,by simp⟩⟩;simp only [fY,zah,if_true,an];exact ⟨_,_,_,_,_,_,h,rfl,.all (l:=⟨none,0,sp.sz,0⟩) (by simp [aN.up]) ⟨rfl,rfl⟩,s2,e2⟩
       .obtain ⟨s2,e2,r2⟩:=kL hs (e:=e) (ys:=ys) (cs:=cs) (by omega) p4' p5 true .ex 0 (Nat.zero_le _) (fun _=>rfl) (fun _ h=>hy (by rw [h];rfl)) (ff+sp.sz) (.inl rfl) false
        simp only [fY,if_neg hy,cJ,if_pos hroom,an];rw [←k3];exact ⟨_,_,_,_,_,_,h,rfl,r2,s2,e2⟩
      .-- onto a list without room
       rename_i e' nl;replace h:=aE h;obtain ⟨hr,h⟩:=h;have hroom:=aF hr;have hsr0:=hsr;cases hsr with |aB he hn hc=>
       obtain ⟨hc1,hc2⟩:=hc rfl;unfold bA at he;have he2:∃ b off,s'= .slice (some ⟨b,off,none⟩) 0 0:=by
        rcases he with ⟨_,he⟩ |⟨b,off,cap,vs,et,fz,ex,sd,he,hb,hg,hcc,hl,hxs⟩ |⟨_,b,he⟩
        .cases he;cases hc2
        .cases he
         have:cap=0:=hc1
         grind
        .grind
       obtain ⟨b,off,rfl⟩:=he2
       .skip
        rcases jX h with ⟨hz,h⟩ |⟨hz,h⟩
        .have hy':ys= []:=by simpa using hz
         subst hy';simp only [fY,zah,if_true,an];exact Good.same hs h hsr0
        .have hy:ys.length≠0:=fun h0=>by
          grind
         obtain ⟨s2,e2,r2⟩:=kL hs (e:=e) (ys:=ys) (cs:=cs) (by omega) p4' p5 true .no 0 (Nat.zero_le _) (fun _=>rfl) (fun h=>by cases h) (ff+sp.sz) (.inl rfl) false;have:fY I e i.size i.bytes ys.length cs (.slice (some ⟨b,off,none⟩) 0 0)=some (.val (.slice (some ⟨I.n,0,none⟩) ys.length (ff+i.size)) (I.new (.cells cs e 0 false false))):=by
          simp only [fY,if_neg hy,cJ,Nat.zero_add,if_pos hroom];rw [if_neg (by unfold ff;omega),if_neg (by omega),if_pos trivial];rfl
         simp only [zah,this,an];rw [←k3];exact ⟨_,_,_,_,_,_,h,rfl,r2,s2,e2⟩
      .-- onto a named list
       rename_i id;split at h
       .rename_i et e' xs w em hg
        replace h:=ad h;obtain ⟨hbe,h⟩:=h;have:=beq_true hbe;subst this;split at h
        .rename_i hh _
         subst hh;replace h:=aE h;obtain ⟨hr,h⟩:=h;cases hsr with |all hl hv=>
         obtain ⟨l',hl',ho⟩:=hs.obj _ _ hg;cases hl.symm.trans hl';rw [ho.1] at hv
         obtain ⟨Γ1,v',I1,q1,q2,q3,q4⟩:=Dh hs (ys:=ys) (em':=em) hg hl hv (by omega) (.inr (by omega)) rfl p4' p5 (aF hr)
          (fun hp _=>by
           obtain ⟨_,_,_,⟨_,_,h3⟩ |⟨b,o,vs,f,ex,sd,hp2,_⟩⟩:=ho
           .exact h3
           grind)
          (fun hem hp=>by
           obtain ⟨_,_,_,⟨h3,_⟩ |⟨b,o,vs,f,ex,sd,hp2,hne,_⟩⟩:=ho
           .exact absurd h3 hp
           grind)
         rw [k3] at q1;simp only [List.drop_zero,List.take_length] at q2 q3;rw [q1];exact ⟨_,_,_,_,_,_,h,rfl,q4,q2,q3⟩
        .cases h
       .cases h
      .rename_i id off len
       split at h
       .rename_i et e' xs em hg
        replace h:=ad h;obtain ⟨hbe,h⟩:=h;have:=beq_true hbe;subst this;split at h
        .rename_i hh _
         subst hh;replace h:=aE h;obtain ⟨hr,h⟩:=h;replace hr:=ae hr;obtain ⟨hr,hr2⟩:=hr;cases hsr with |own hl hle hv=>
         obtain ⟨l',hl',ho⟩:=hs.obj _ _ hg;cases hl.symm.trans hl';rw [ho.1] at hle
         obtain ⟨Γ1,v',I1,q1,q2,q3,q4⟩:=Dh hs (ys:=ys) (em':= .no) hg hl hv hle (.inl rfl) rfl p4' p5 (aF hr)
          (fun hp hy=>by
           exfalso
           obtain ⟨_,_,_,⟨_,h2,h3⟩ |⟨b,o,vs,f,ex,sd,hp2,_⟩⟩:=ho
           .subst h2 hy
            have:len=0:=by simp at hle;omega
            subst this;cases em with
            |no=>exact h3 rfl
            |ex=>cases hr2
            |any=>cases hr2
           grind)
          (fun h=>by cases h)
         rw [k3] at q1;rw [q1];exact ⟨_,_,_,_,_,_,h,rfl,q4,q2,q3⟩
        .cases h
       .cases h
      .cases h
     .cases h
    .cases h
   .cases h
 .cases h
end
end Go.Gv
/- The pure evaluator's operations are the ideal one's (the seventh part): lists made, ranges over texts, what has no body. -/
namespace Go.Gv
open Go Go.Iv
section
variable {Z:Type} {P:Program} {hint:Hint} {sh:bU} {O:Nat->Prop} {Γ Γ1:aN} {Pu Pu1:Nat->Prop} {H H1:GH} {I I1 I2:IH} {K:TV->GH->Option Z} {r:Z}
theorem Sh.gG:∀ s:Sh,0<s.sz:=by
 intro s
 induction s with
 |cons a b iha ihb=>simp only [Sh.sz];omega
 |_=>exact Nat.one_pos
theorem tf {z:List TV} {z':List Value} (h:br Γ Pu I z z'):∀ n,br Γ Pu I (M6 z n) (eY z' n):=by
 intro n
 induction n with
 |zero=>exact .nil
 |succ n ih=>exact h.append ih
theorem qA {s:Sh}:∀ {n:Nat} {l:List TV} {vs:List Value} {xs:List s.ty},rowsOf s n l=some xs->br Γ Pu I l vs->xs.length=n/\vs.length=n*s.sz/\Row Pu I s xs vs 0:=by
 intro n
 induction n with
 |zero=>
  intro l vs xs h hr;unfold rowsOf at h;split at h
  .cases h;cases hr;exact ⟨rfl,by simp,fun i x h=>by cases h⟩
  .cases h
  omega
 |succ n ih=>
  intro l vs xs h hr;unfold rowsOf at h;split at h
  .rename_i x rest h1
   split at h
   .rename_i xs' h2
    cases h;obtain ⟨u,w,rfl,e1,r1⟩:=Sh.rU h1 hr;obtain ⟨a1,a2,a3⟩:=ih h2 r1;have hl:=e1.len;have hx:Row Pu I s [x] u 0:=fun i y hi=>by
     cases i with
     |zero=>grind
     |succ i=>cases hi
    exact ⟨by simp [a1],by grind,hx.app a3 (by simp [hl])⟩
   .cases h
  .cases h
theorem lg {sh:bU} (hs:au P hint sh Γ Pu H I) {t:TypeId} {len:Nat} {ps:List (Nat×TV)} {ps':List (Nat×Value)} (h:eg P sh H t len ps K=some r) (hp:D7 Γ Pu I ps ps'):Good P hint sh K r Γ Pu H I (an (aZ P I t len ps')):=by
 unfold eg at h;split at h
 .rename_i e i he
  replace h:=ad h;obtain ⟨hb,h⟩:=h;replace hb:=ae hb;obtain ⟨hb1,hb2⟩:=hb;split at h
  .rename_i z s hz hsh
   replace h:=ad h;obtain ⟨hc,h⟩:=h;replace hc:=ae hc;obtain ⟨hc,hc3⟩:=hc;replace hc:=ae hc;obtain ⟨hc1,hc2⟩:=hc;have k1:=beq_true hc1;have k3:=beq_true hc3;split at h
   .rename_i cells hf
    obtain ⟨vs',hf',hr'⟩:=jQ (vs:=⟨eY z.cells.toList len⟩) hf hb2 hp (tf (eB hc2) len);split at h
    .rename_i cells' H1 hpl
     obtain ⟨Pu1,s1,e1,r1⟩:=iu hs hpl hr';split at h
     .rename_i xs hx
      obtain ⟨a1,a2,a3⟩:=qA hx r1;have hsz:=s.gG;have a2':vs'.toList.length=xs.length*s.sz:=by rw [a1];exact a2
      have hlu:len<ff:=by
       have:=aF hb1;have h2:len<=len*(i.size+1):=Nat.le_mul_of_pos_right _ (by omega);unfold ff;have:(2:Nat)^24<2^64:=by decide
       omega
      obtain ⟨s2,e2,r2⟩:=kL s1 (e:=e) (ys:=xs) (cs:=vs'.toList) hsz a2' a3 true false 0 (Nat.zero_le _) (fun _=>rfl) (fun h=>by cases h) len
       (.inr ⟨hlu,by omega,by rw [a2];omega⟩) true
      have:aZ P I t len ps'=some (.val (.slice (some ⟨I.n,0,none⟩) len len) (bO I e vs'.toList)):=by
       simp only [aZ,he,hz];rw [if_pos (by simp [hp.ok hb2];simp_all),if_pos k1,hf']
      rw [this];rw [a1] at r2 s2 e2;simp only [an];exact ⟨_,_,_,_,_,_,h,rfl,r2,s2,Ex.trans hs s1 e1 e2⟩
     .cases h
    .cases h
   .cases h
  .cases h
 .cases h
theorem Nd {s:Sh} {x:s.ty} {z:List Value} (h:bA Pu I s x z):∀ n,(eY z n).length=n*s.sz/\Row Pu I s (List.replicate n x) (eY z n) 0:=by
 intro n
 induction n with
 |zero=>exact ⟨by simp [eY],fun i y h=>by cases h⟩
 |succ n ih=>
  have hl:=h.len;refine ⟨by simp [eY,ih.1,hl,zaj];omega,?_⟩;have hx:Row Pu I s [x] z 0:=fun i y hi=>by
   cases i with
   |zero=>grind
   |succ i=>cases hi
  have:=hx.app ih.2 (by simp [hl]);simpa [eY,List.replicate_succ] using this
theorem wc {sh:bU} (hs:au P hint sh Γ Pu H I) {t:TypeId} {eq:Bool} {l c:TV} {l' c':Value} (h:ot dS P sh H t eq l c K=some r) (hl:GR Γ Pu I l l') (hc:GR Γ Pu I c c') (heq:eq=true->l=c):Good P hint sh K r Γ Pu H I (an (cB P I t l' c')):=by
 unfold ot at h;split at h
 .rename_i e i l c he
  cases hl;cases hc;split at h
  .rename_i z s hz hsh
   replace h:=ad h;obtain ⟨hb,h⟩:=h;replace hb:=ae hb;obtain ⟨hb,hb3⟩:=hb;replace hb:=ae hb;obtain ⟨hb1,hb2⟩:=hb;have k1:=beq_true hb1;have k3:=beq_true hb3;split at h
   .rename_i zz hzz
    replace h:=aE h;obtain ⟨hn,h⟩:=h;replace hn:=ae hn;obtain ⟨hn,hn3⟩:=hn;replace hn:=ae hn;obtain ⟨hn1,hn2⟩:=hn;have n1:=bM hn1;have n2:=bM hn2;have n3:=bM hn3;have henc:=Sh.gA hzz (eB (Γ:=Γ) (Pu:=Pu) (I:=I) hb2);obtain ⟨q1,q2⟩:=Nd henc c.toNat;have hsz:=s.gG;have hcu:c.toNat<ff:=by
     have:c<=c*((i.bytes:Int)+1):=by
      have h0:0<=c:=by omega
      have:c*1<=c*((i.bytes:Int)+1):=Int.mul_le_mul_of_nonneg_left (by omega) h0;omega
     unfold ff;have h1:(roomy:Int)<2^64:=by unfold roomy;decide
     have h2:(2:Int)^64=((2^64:Nat):Int):=by decide
     omega
    obtain ⟨s2,e2,r2⟩:=kL hs (e:=e) (ys:=List.replicate c.toNat zz) (cs:=eY z.cells.toList c.toNat) hsz (by grind) q2 true .no 0 (Nat.zero_le _) (fun _=>rfl) (fun h=>by cases h) c.toNat
     (.inr ⟨hcu,by simp,by rw [q1];omega⟩) true
    have hev:cB P I t (.int .i64 l) (.int .i64 c)=some (.val (.slice (some ⟨I.n,0,none⟩) l.toNat c.toNat) (bO I e (eY z.cells.toList c.toNat))):=by
     simp only [cB,he,hz];rw [if_pos (by grind),if_pos k1]
    rw [hev];simp only [an];have hlc:l.toNat<=c.toNat:=by omega
    cases eq with
    |true=>
     have:=heq rfl;cases this;rw [List.length_replicate] at r2 s2 e2;exact ⟨_,_,_,_,_,_,h,rfl,r2,s2,e2⟩
    |false=>
     refine ⟨_,_,_,_,_,_,h,rfl,.own (l:=⟨some (I.n,0),(List.replicate c.toNat zz).length,s.sz,(eY z.cells.toList c.toNat).length⟩) (by simp [aN.up]) (by simp;omega) ?_,s2,e2⟩;exact ⟨c.toNat,by simp,.inr ⟨hcu,hlc,by rw [q1];simp⟩⟩
   .cases h
  .cases h
 .cases h
theorem J1 (hs:au P hint sh Γ Pu H I) {t:TypeId} {x:TV} {x':Value} (h:Ea P H t x K=some r) (hx:GR Γ Pu I x x'):Good P hint sh K r Γ Pu H I (an (qj P I t x')):=by
 unfold Ea at h;split at h
 .rename_i s hu
  cases hx;simp only [qj,hu,an];obtain ⟨s1,e1⟩:=hs.new (.iter s 0) (.eM (ba s) 0) ⟨some (I.n,0),0,0,0⟩ 0 rfl ⟨I.n,rfl,hs.ro,by rw [IH.ay,if_pos rfl]⟩;exact ⟨_,_,_,_,_,_,h,rfl,.ptr (l:=⟨some (I.n,0),0,0,0⟩) (by simp [aN.up]) rfl,s1,e1⟩
 .cases h
theorem Mq (hs:au P hint sh Γ Pu H I) {x:TV} {x':Value} (h:LD dS H x K=some r) (hx:GR Γ Pu I x x'):Good P hint sh K r Γ Pu H I (an (qM I x')):=by
 unfold LD at h;split at h
 .rename_i id
  cases hx with |ptr hl hp=>
  rename_i b l;split at h
  .rename_i s pos hg
   obtain ⟨l',hl',ho⟩:=hs.obj _ _ hg;cases hl.symm.trans hl';obtain ⟨b',hp',hro,hgb⟩:=ho;cases hp.symm.trans hp';rcases jX h with ⟨h1,h2⟩ |⟨h1,h2⟩
   .have hlt:pos<(ba s).size:=c7 h1
    simp only [qM,hgb,if_neg (Nat.not_lt_of_le hro),if_pos hlt,an];obtain ⟨s1,e1⟩:=hs.gS hg rfl hl hp (.iter s (pos+(Utf8.decode (ba s) pos).2)) (.eM (ba s) (pos+(Utf8.decode (ba s) pos).2)) ⟨b,hp,hro,by rw [IH.ag,if_pos rfl]⟩;exact ⟨_,_,_,_,_,_,h2,rfl,.ja (.cons (.bool true) (.cons (.int _ _) (.cons (.int _ _) .nil))),s1,e1⟩
   .have hlt:¬ pos<(ba s).size:=fun hh=>by
     have:Nat.blt pos s.length=true:=Nat.ble_eq_true_of_le hh
     grind
    simp only [qM,hgb,if_neg (Nat.not_lt_of_le hro),if_neg hlt,an];exact Good.same hs h2 (.ja (.cons (.bool false) .nil))
  .cases h
 .cases h
theorem wI (hs:au P hint sh Γ Pu H I) {x:TV} {x':Value} {at0:Array TypeId} {ty:TypeId} (h:ov dS H x K=some r) (hx:GR Γ Pu I x x'):Good P hint sh K r Γ Pu H I (an (bj P I .unsafeSliceData at0 ty [x'])):=by
 unfold ov at h;split at h
 .cases hx
  simp only [bj,an];exact Good.same hs h (.raw _)
 .rename_i id
  cases hx with |all hl hv=>
  rename_i l;split at h
  .rename_i et e xs w fz em hg
   obtain ⟨l',hl',ho⟩:=hs.obj _ _ hg;cases hl.symm.trans hl';have h1:=ho.1;have some_:xs≠ []->K (.iO id 0 0) H=some r->Good P hint sh K r Γ Pu H I (an (bj P I .unsafeSliceData at0 ty [x'])):=fun hne h=>by
    unfold fF at hv;split at hv
    .grind
    .rename_i b o hp
     obtain ⟨cap,rfl,_⟩:=hv;have hln:l.len≠0:=by rw [h1];intro h0;exact hne (List.eq_nil_of_length_eq_zero h0)
     simp only [bj,if_neg hln,an];have:=GR.iO (Γ:=Γ) (Pu:=Pu) (I:=I) (i:=0) (off:=0) hl hp;rw [Nat.add_zero] at this;exact Good.same hs h this
   cases em with
   |any |no=>
    replace h:=aE h;grind
   |ex=>
    rcases jX h with ⟨hz,h⟩ |⟨hz,h⟩
    .have hx0:xs= []:=by simpa using hz
     obtain ⟨_,_,_,⟨hp,_⟩ |⟨b,o,vs,f,ex,sd,hp,hne,_⟩⟩:=ho
     .unfold fF at hv;rw [hp] at hv
      obtain ⟨rfl,_⟩:=hv;simp only [bj,an];exact Good.same hs h (.raw _)
     .exact absurd hx0 (hne rfl)
    grind
  .cases h
 .cases h
theorem Ba (hs:au P hint sh Γ Pu H I) {p n:TV} {p' n':Value} {at0:Array TypeId} {ty:TypeId} (h:uI dS P H at0 p n K=some r) (hp:GR Γ Pu I p p') (hn:GR Γ Pu I n n') (ha:at0[0]?.isSome=true):Good P hint sh K r Γ Pu H I (an (bj P I .unsafeString at0 ty [p',n'])):=by
 unfold uI at h;split at h
 .cases hp;cases hn
  replace h:=aE h;obtain ⟨hz,h⟩:=h;have hz':‹Int› =0:=by simpa using hz
  simp only [bj,ha,if_true,ic,if_pos hz',an];exact Good.same hs h (.str [])
 .rename_i id n
  cases hp with |iO hl hpos=>
  cases hn;rename_i b o l;split at h
  .rename_i et e xs w em pt hg hpt
   split at h
   .rename_i hh _
    subst hh;replace h:=ad h;obtain ⟨hb,h⟩:=h;replace hb:=ae hb;obtain ⟨hb1,hb2⟩:=hb;replace h:=aE h;obtain ⟨hn,h⟩:=h;replace hn:=ae hn;obtain ⟨hn,hn3⟩:=hn;replace hn:=ae hn;obtain ⟨hn1,hn2⟩:=hn;have n1:=bM hn1;have n2:=bM hn2;have n3:=bM hn3;obtain ⟨l',hl',ho⟩:=hs.obj _ _ hg;cases hl.symm.trans hl';obtain ⟨h1,h2,h3,h4 |⟨b',o',vs,f,ex,sd,hp2,he,hgb,ht,hbl,hrows,hfz,hpu⟩⟩:=ho
    .grind
    .cases hpos.symm.trans hp2
     obtain ⟨w1,w2,w3,w4⟩:=hfz rfl;subst w2;have hsz:l.sz=1:=h2;have hrow:Row Pu I .byte xs vs o:=hrows;have hcut:=hrow.cut xs.length (zal _);simp only [Sh.sz,Nat.mul_one] at hcut hbl w3;have hby:=hcut.byte (by simp;omega);have htk:(vs.drop o).take n.toNat=(xs.take n.toNat).map fun c=>(.int .u8 c.toNat:Value):=by
      rw [List.map_take,←hby,List.take_take]
      congr 1
      have hnx:n.toNat<=xs.length:=by
       have:(n:Int)<=(xs.length:Int):=n2;omega
      omega
     have hnx:n.toNat<=xs.length:=by
      have:(n:Int)<=(xs.length:Int):=n2;omega
     have hnp:¬ Pu b:=hs.sep b (.pos hg rfl hl hpos);have turned:∀ f',f'<=o+xs.length->au P hint sh Γ Pu (H.put id (.arr et .byte xs false false em)) (I.put b (.cells vs et f' ex false))/\Ex (bk Γ H I) Γ Pu H I Γ Pu (H.put id (.arr et .byte xs false false em)) (I.put b (.cells vs et f' ex false)):=by
      intro f' hf';have k:cp Γ Pu I Γ Pu (I.put b (.cells vs et f' ex false)):=⟨fun _ _ h=>h,fun _ h=>h,fun b' hb'=>by rw [IH.ag,if_neg (by grind)]⟩
      exact hs.gS hg rfl hl hpos (.arr et .byte xs false false em) (.cells vs et f' ex false)
       ⟨h1,h2,h3,.inr ⟨b,o,vs,f',ex,false,hpos,he,by rw [IH.ag,if_pos rfl],ht,by grind,fun i x hi=>(hrows i x hi).mono k.p k.i,fun _=>⟨w1,rfl,by grind,fun h=>by cases h⟩,fun h=>by cases h⟩⟩
     simp only [hsz,Nat.zero_mul,Nat.add_zero];by_cases hz:n=0
     .subst hz
      simp only [bj,ha,if_true,ic,an];obtain ⟨s1,e1⟩:=turned f w3;have hself:∀ k,I.get k=(I.put b (.cells vs et f ex false)).get k:=fun k=>(IH.pJ I hgb k).symm
      exact ⟨_,_,_,_,_,_,h,rfl,.str [],s1.wa hself rfl,e1.wa hself rfl⟩
     .obtain ⟨s1,e1⟩:=turned (max f (o+n.toNat)) (by omega)
      have hc:(decide (ep<=b) && !false &&decide (0<=n) &&decide (n<=(roomy:Int)) &&decide (o+n.toNat<=vs.length) &&(P.cellsOf et==1) &&oN P pt et)=true:=by
       simp [w1,n1,n3,beq_true hb1,hb2];omega
      simp only [bj,ic,if_neg hz,hgb,hpt,htk,rR];rw [if_pos hc];exact ⟨_,_,_,_,_,_,h,rfl,.str _,s1,e1⟩
   .cases h
  .cases h
 .cases h
theorem uE (hs:au P hint sh Γ Pu H I) {f:Int->Int->Int} {g:Value->Value->Sem Value} (hg:∀ k n k' m,g (.int k n) (.int k' m)=pure (.int k (f n m))) {l:List TV} {l':List Value} {s:Sem Value} (hsm:∀ x rest,l'=x::rest->s=rest.foldlM g x) (h:ti H f l K=some r) (hl:br Γ Pu I l l'):
  Good P hint sh K r Γ Pu H I (an (if l'.all aU then cI P I s else none)):=by
 unfold ti at h;cases h
theorem DD (hs:au P hint sh Γ Pu H I) {fn:Func} {args:List TV} {args':List Value} (h:yN H fn args K=some r) (ha:br Γ Pu I args args'):Good P hint sh K r Γ Pu H I (gz P I fn args'):=by
 unfold yN at h;split at h
 .cases h
 .rename_i h0
  split at h
  .rename_i h1
   split at h
   .cases ha with |cons a b=>
    cases b;simp only [gz,if_neg h0,if_pos h1];exact Good.same hs h a
   .cases h
  .rename_i h1
   split at h
   .rename_i h2
    split at h
    .cases ha with |cons a b=>
     cases b with |cons b c=>
     cases c;cases a;cases b;rename_i s c;have e:UInt8.ofNat (Int.toNat (c.toNat:Int))=c:=by simp
     unfold oW at h;cases hi:s9 c s 0 with
     |some i=>
      rw [hi] at h;simp only [gz,if_neg h0,if_neg h1,if_pos h2,e,nx,hi];exact Good.same hs h (.int _ _)
     |none=>
      rw [hi] at h;simp only [gz,if_neg h0,if_neg h1,if_pos h2,e,nx,hi];exact Good.same hs h (.int _ _)
    .cases h
   .rename_i h2
    split at h
    .rename_i h3
     split at h
     .cases ha with |cons a b=>
      cases b with |cons b c=>
      cases c;cases a;cases b;rename_i s c;have e:UInt8.ofNat (Int.toNat (c.toNat:Int))=c:=by simp
      simp only [gz,if_neg h0,if_neg h1,if_neg h2,if_pos h3,e,nx];exact Good.same hs h (.int _ _)
     .cases h
    .cases h
end
end Go.Gv
