/- The pure evaluator's operations are the ideal one's: maps. -/
import Derived.Test.YteknbnkjelmfaaaGreatDoorGvOpsY
set_option linter.unusedSimpArgs false
set_option linter.unusedVariables false
namespace Go.Gv
open Go Go.Iv
section
variable {Z:Type} {P:Program} {hint:Hint} {sh:bU} {Γ Γ1:aN} {Pu Pu1:Nat->Prop} {H H1:GH} {I I1:IH} {K:TV->GH->Option Z} {r:Z}
theorem HA {H H1:GH} {t t':TV} (h:rS H t=some (t',H1)):t.one=true:=by
 cases t with
 |agg l=>cases h
 |ja l=>cases h
 |undef=>cases h
 |J6 w=>cases h
 |raw v=>
  unfold rS at h;split at h
  all_goals first
   |(rename_i hh;cases hh;rfl)
   |grind
   |(cases h;done)
   |rfl
 |_=>rfl
theorem xl:∀ {l l':List TV} {H H1:GH},ik l H=some (l',H1)->l.all TV.one=true:=by
 intro l
 induction l with
 |nil=>grind
 |cons t r ih=>
  intro l' H H1 h;unfold ik at h;split at h
  .rename_i h1
   split at h
   .rename_i h2
    simp only [List.all_cons,zae];exact ⟨HA h1,ih h2⟩
   .cases h
  .cases h
theorem Sh.Sk:∀ {s:Sh} {x y:s.ty},s.CX x y=true->x=y:=by
 intro s
 induction s with
 |int k=>intro x y h;exact eq_of_beq (α:=Int) h
 |byte=>intro x y h;exact eq_of_beq (α:=UInt8) h
 |bool=>intro x y h;exact eq_of_beq (α:=Bool) h
 |str=>intro x y h;exact eq_of_beq (α:=List UInt8) h
 |cons a b iha ihb=>
  intro x y h;replace h:=ae h
  grind
 |bH e _=>intro x y h;cases h
theorem PJ {t:TypeId} {s:Sh} {x:s.ty} {vs:List Value} (hc:ri P t s=true) (he:bA Pu I s x vs):
  ∃ v d,vs= [v]/\aU v=true/\P.underlying t=some d/\(∀ fs,d≠ .struct fs)/\(∀ n e,d≠ .array n e)/\(∀ n em,bR P (Instr.checkKey em (n+1) t v)=some ())/\(∀ n,Instr.sameBits n v v=true):=by
 have go:∀ {v:Value} {d:TypeDesc},P.underlying t=some d->(∀ fs,d≠ .struct fs)->(∀ n e,d≠ .array n e)->(∀ m,d≠ .interface m)->∀ n em,bR P (Instr.checkKey em (n+1) t v)=some ():=by
  intro v d hu h1 h2 h3 n em;unfold Instr.checkKey;rw [aI _ _ _ (bn hu)];cases d<;>first |rfl |grind |grind |grind
 unfold ri at hc;split at hc
 .split at hc
  .rename_i hu
   unfold bA at he;subst he;exact ⟨_,_,rfl,rfl,hu,by intros;simp,by intros;simp,go hu (by intros;simp) (by intros;simp) (by intros;simp),fun n=>by cases n<;>simp [Instr.sameBits]⟩
  .cases hc
 .split at hc
  .rename_i hu
   unfold bA at he;subst he;exact ⟨_,_,rfl,rfl,hu,by intros;simp,by intros;simp,go hu (by intros;simp) (by intros;simp) (by intros;simp),fun n=>by cases n<;>simp [Instr.sameBits]⟩
  .cases hc
 .split at hc
  .rename_i hu
   unfold bA at he;subst he;exact ⟨_,_,rfl,rfl,hu,by intros;simp,by intros;simp,go hu (by intros;simp) (by intros;simp) (by intros;simp),fun n=>by cases n<;>simp [Instr.sameBits]⟩
  .cases hc
 .split at hc
  .rename_i hu
   unfold bA at he;subst he;exact ⟨_,_,rfl,rfl,hu,by intros;simp,by intros;simp,go hu (by intros;simp) (by intros;simp) (by intros;simp),fun n=>by
    have e:(ba x==ba x)=true:=by
     show ((⟨x⟩:Array UInt8)==⟨x⟩)=true
     simp
    cases n<;>simpa [Instr.sameBits] using e⟩
  .cases hc
 .cases hc
theorem kD {kt:TypeId} {g:Bool} {k:Sh} {x:k.ty} {v:Value} (hk:ni P kt g k=true) (hd:sF Pu I g k x v):
  (∀ em,ma P em kt v=true)/\Instr.sameBits 10000 v v=true/\∀ {y:k.ty} {w:Value},sF Pu I g k y w->gK P kt v w=some (k.CX x y):=by
 obtain ⟨h1,h2,h3⟩:=hd;unfold ni at hk;split at hk
 .cases hk
 .replace hk:=ae hk;obtain ⟨hg,hc⟩:=hk
  have hg':g=false:=by simpa using hg
  rw [h3 hg'] at h1;refine ⟨fun em=>?_,?_,fun {y w} hd2=>?_⟩
  .unfold ri at hc
   unfold ma
   split at hc<;>(try split at hc)<;>first
    |(cases hc;done)
    |(rename_i hu;unfold bA at h1;cases h1;rw [hu])
  .obtain ⟨v',_,e0,_,_,_,_,_,e4⟩:=PJ hc h1
   grind
  .obtain ⟨g1,g2,g3⟩:=hd2
   rw [g3 hg'] at g1;unfold ri at hc;split at hc
   .split at hc
    .unfold bA at h1 g1;cases h1;cases g1;simp [gK,Sh.CX]
    .cases hc
   .split at hc
    .unfold bA at h1 g1;cases h1;cases g1
     simp only [gK,if_true,Sh.CX];rw [←tu]
    .cases hc
   .split at hc
    .unfold bA at h1 g1;cases h1;cases g1;rfl
    .cases hc
   .split at hc
    .unfold bA at h1 g1;cases h1;cases g1;rfl
    .cases hc
   .cases hc
theorem Nk {g:Bool} {k:Sh} {t:TV} {v:Value} {x:k.ty} (h:(bif g then Tf t else t.one)=true) (he:bA Pu I k x v.cells.toList) (hr:GR Γ Pu I t v):sF Pu I g k x v:=by
 cases g with
 |true=>
  cases t with
  |agg cs=>cases hr with |agg hr=>exact ⟨he,fun _=>⟨_,rfl⟩,fun h=>by cases h⟩
  |_=>cases h
 |false=>exact ⟨he,(fun h=>by cases h),fun _=>jG (hr.one h)⟩
theorem zA {g:Bool} {k:Sh} {t:TV} {v:Value} {x:k.ty} (h:M4 g k t=some x) (hr:GR Γ Pu I t v):sF Pu I g k x v:=by
 unfold M4 at h;replace h:=ad h;obtain ⟨hg,h⟩:=h;refine Nk hg (Sh.gA (Γ:=Γ) h ?_) hr;cases g with
 |true=>
  cases t with
  |agg cs=>cases hr with |agg hr=>exact hr
  |_=>cases hg
 |false=>
  have h1:t.one=true:=hg;rw [jG (hr.one h1),TV.B2 h1];exact .cons hr .nil
theorem F5 {kt:TypeId} {gk ge:Bool} {k e:Sh} {x:k.ty} {v:Value} (hk:ni P kt gk k=true) (hd:sF Pu I gk k x v):∀ {xs:List (k.ty×e.ty)} {es:List MapEntry} (i:Nat),mR Pu I gk ge k e xs es->ll k xs x=none->iF P kt v es i=some none:=by
 intro xs
 induction xs with
 |nil=>intro es i h _;unfold mR at h;subst h;rfl
 |cons p r ih=>
  intro es i h hm;obtain ⟨n,t,rfl,h1,h2,h3⟩:=h;have hc:=(kD hk hd).2.2 h1;unfold ll at hm;cases hq:k.CX x p.1 with
  |true=>grind
  |false=>
   rw [hq] at hm hc;simp only [iF,hc]
   grind
theorem Rt {gk ge:Bool} {k e:Sh} {x:k.ty} {y:e.ty} {v w:Value} {ck:Nat} (hd:sF Pu I gk k x v) (hw:sF Pu I ge e y w):∀ {xs:List (k.ty×e.ty)} {es:List MapEntry},mR Pu I gk ge k e xs es->ll k xs x=none->
  mR Pu I gk ge k e (de k xs x y) (es++ [{ key:=v,val:=w,born:=ck }]):=by
 intro xs
 induction xs with
 |nil=>intro es h _;unfold mR at h;subst h;exact ⟨_,_,rfl,hd,hw,rfl⟩
 |cons p r ih=>
  intro es h hm;obtain ⟨n,t,rfl,h1,h2,h3⟩:=h;unfold ll at hm;cases hq:k.CX x p.1 with
  |true=>grind
  |false=>
   rw [hq] at hm;simp only [de,hq,zab];exact ⟨_,_,rfl,h1,h2,ih h3 hm⟩
theorem Bw {kt:TypeId} {gk ge:Bool} {k e:Sh} {x:k.ty} {y:e.ty} {v:Value} (hk:ni P kt gk k=true) (hd:sF Pu I gk k x v):∀ {xs:List (k.ty×e.ty)} {es:List MapEntry} (i:Nat),mR Pu I gk ge k e xs es->ll k xs x=some y->
  ∃ j n,iF P kt v es i=some (some (i+j,n.val))/\sF Pu I ge e y n.val/\es[j]? =some n/\sF Pu I gk k x n.key/\∀ (y':e.ty) (w:Value),sF Pu I ge e y' w->mR Pu I gk ge k e (de k xs x y') (zf v w es j):=by
 intro xs
 induction xs with
 |nil=>intro es i _ h;cases h
 |cons p r ih=>
  intro es i h hm;obtain ⟨n,t,rfl,h1,h2,h3⟩:=h;have hc:=(kD hk hd).2.2 h1;unfold ll at hm;cases hq:k.CX x p.1 with
  |true=>
   rw [hq] at hm hc;cases hm;refine ⟨0,n,by simp only [iF,hc];rfl,h2,rfl,by rw [Sh.Sk hq];exact h1,fun y' w hw=>?_⟩;simp only [de,hq,zac];exact ⟨_,_,rfl,hd,hw,h3⟩
  |false=>
   rw [hq] at hm hc;obtain ⟨j,n',f1,f2,f3,f4,f5⟩:=ih (i+1) h3 hm;refine ⟨j+1,n',by simp only [iF,hc,f1];grind,f2,f3,f4,fun y' w hw=>?_⟩;simp only [de,hq,zab];exact ⟨_,_,rfl,h1,h2,f5 y' w hw⟩
theorem KE {kt:TypeId} {g:Bool} {k:Sh} {x:k.ty} {v w:Value} (hk:ni P kt g k=true) (hd:sF Pu I g k x v) (hd2:sF Pu I g k x w):v=w:=by
 obtain ⟨h1,h2,h3⟩:=hd;obtain ⟨g1,g2,g3⟩:=hd2;unfold ni at hk;split at hk
 .cases hk
 .replace hk:=ae hk;obtain ⟨hg,hc⟩:=hk
  have hg':g=false:=by simpa using hg
  rw [h3 hg'] at h1;rw [g3 hg'] at g1;unfold ri at hc;split at hc<;>first |(unfold bA at h1 g1;grind) |cases hc
theorem CC {e:TypeId} {ge:Bool} {es:Sh} {z:es.ty} (h:F3 P e ge es=some z):∃ zv,zeroOf P e=some zv/\sF Pu I ge es z zv:=by
 unfold F3 at h;split at h
 .rename_i zv hz
  replace h:=ad h;obtain ⟨hb,h⟩:=h;replace hb:=ae hb;refine ⟨zv,hz,Sh.gA (Γ:=fun _=>none) h (eB hb.2),fun hg=>?_,fun hg=>?_⟩
  .grind
  .subst hg
   cases zv<;>first |rfl |grind
 .cases h
theorem mr {ok b:Bool} {t:TV} {v:Value} (h:GR Γ Pu I t v):GR Γ Pu I (bif ok then .ja [t,.bool b] else t) (jl ok v b):=by
 cases ok with
 |true=>exact .ja (.cons h (.cons (.bool b) .nil))
 |false=>exact h
theorem D9 (hs:au P hint sh Γ Pu H I) {t:TypeId} {x k:TV} {x' k':Value} {ok:Bool} (h:Af P sh H t x k ok K=some r) (hx:GR Γ Pu I x x') (hk:GR Γ Pu I k k'):Good P hint sh K r Γ Pu H I (an (cN P I t x' k' ok)):=by
 unfold Af at h;split at h
 .rename_i kt e id hm
  cases hx with |mp hl hv=>
  rename_i l;split at h
  .rename_i kt' gk ge ks es xs em hg
   replace h:=ad h;obtain ⟨hkb,h⟩:=h;have hkt:=beq_true hkb;subst hkt;split at h
   .rename_i kx z hkx hz
    have hd:=zA hkx hk;obtain ⟨zv,hzv,hzd⟩:=CC (Pu:=Pu) (I:=I) hz;obtain ⟨l',hl',ho⟩:=hs.obj id _ hg;cases hl.symm.trans hl';unfold Oj at hv;rcases ho with ⟨hko,⟨hp,hx0,hem⟩ |⟨b,ents,ck,hp,hro,hne,hgb,hent⟩⟩
    .rw [hp] at hv;subst hv hx0
     simp only [cN,hm,(kD hko hd).1 true,if_true,hzv,an];exact Good.same hs h (mr hzd.gr)
    .rw [hp] at hv;subst hv
     cases hq:ll ks xs kx with
     |none=>
      have hf:=F5 hko hd 0 hent hq;simp only [cN,hm,hgb,(kD hko hd).1,if_true,hf,hzv,an];simp only [aW,IY,hq,Option.getD_none,Option.isSome_none] at h;exact Good.same hs h (mr hzd.gr)
     |some y=>
      obtain ⟨j,n,f1,f2,_⟩:=Bw hko hd 0 hent hq;simp only [cN,hm,hgb,(kD hko hd).1,if_true,f1,an];simp only [aW,IY,hq,Option.getD_some,Option.isSome_some] at h;exact Good.same hs h (mr f2.gr)
   .cases h
  .cases h
 .rename_i kt e hm
  cases hx;split at h
  .rename_i ks es hks hes
   replace h:=ad h;obtain ⟨hko,h⟩:=h;split at h
   .rename_i kx ge hkx hge
    split at h
    .rename_i z hz
     have hd:=zA hkx hk;obtain ⟨zv,hzv,hzd⟩:=CC (Pu:=Pu) (I:=I) hz;simp only [cN,hm,(kD hko hd).1 true,if_true,hzv,an];exact Good.same hs h (mr hzd.gr)
    .cases h
   .cases h
  .cases h
 .cases h
theorem OZ {k:Sh} {Z:Type}:∀ (l:List (k.ty×Z)) (x:k.ty) (y:Z),de k l x y≠ []:=by
 intro l x y;cases l with
 |nil=>simp [de]
 |cons p r=>unfold de;grind
theorem FH (hs:au P hint sh Γ Pu H I) {t:TypeId} {m k v:TV} {m' k' v':Value} (h:zm dS P H t m k v K=some r) (hm:GR Γ Pu I m m') (hk:GR Γ Pu I k k') (hv:GR Γ Pu I v v'):Good P hint sh K r Γ Pu H I (an (fw P I t m' k' v')):=by
 unfold zm at h;split at h
 .rename_i kt e id hmt
  cases hm with |mp hl hmv=>
  rename_i l;split at h
  .rename_i cs H1 hpl
   have hone:=xl hpl;obtain ⟨Pu1,s1,e1,r1⟩:=iu hs hpl (hv.cells hone);have k1:=e1.cy hs;split at h
   .rename_i kt' gk ge ks es xs em hg
    replace h:=ad h;obtain ⟨hb,h⟩:=h;replace hb:=ae hb;obtain ⟨hkb,hag⟩:=hb;have hkt:=beq_true hkb;subst hkt;split at h
    .rename_i kx y hkx hy
     replace h:=aE h;obtain ⟨hn,h⟩:=h;have hd:=(zA hkx hk).mono k1.p k1.i;have hd2:sF Pu1 I ge es y v':=Nk hag (Sh.gA hy r1) (hv.mono k1);have hl1:=e1.g _ _ hl;obtain ⟨l',hl',ho⟩:=s1.obj id _ hg;cases hl1.symm.trans hl';unfold Oj at hmv;rcases ho with ⟨hko,⟨hp,hx0,hem⟩ |⟨b,ents,ck,hp,hro,hne,hgb,hent⟩⟩
     .grind
     .rw [hp] at hmv;subst hmv
      have hnp:¬ Pu1 b:=s1.sep b (.pos hg rfl hl1 hp);have go:∀ (es':List MapEntry) (ck':Nat),mR Pu1 I gk ge ks es (de ks xs kx y) es'->fw P I t (.map (some b)) k' v'=some (.skip (I.put b (.map es' ck')))->Good P hint sh K r Γ Pu H I (an (fw P I t (.map (some b)) k' v')):=by
       intro es' ck' hE hev;have kk:cp Γ Pu1 I Γ Pu1 (I.put b (.map es' ck')):=⟨fun _ _ h=>h,fun _ h=>h,fun b' hb'=>by rw [IH.ag,if_neg (by grind)]⟩
       obtain ⟨s2,e2⟩:=s1.gS hg rfl hl1 hp (.map kt gk ge ks es (de ks xs kx y) em) (.map es' ck')
        ⟨hko,.inr ⟨b,es',ck',hp,hro,fun _=>OZ _ _ _,by rw [IH.ag,if_pos rfl],hE.mono kk.p kk.i⟩⟩
       rw [hev];exact ⟨_,_,_,_,_,_,h,rfl,.undef _,s2,Ex.trans hs s1 e1 e2⟩
      have hro':¬ b<ep:=by omega
      cases hq:ll ks xs kx with
      |none=>
       have hf:=F5 hko hd 0 hent hq;refine go (ents++ [{ key:=k',val:=v',born:=ck }]) (ck+1) (Rt hd hd2 hent hq) ?_;simp only [fw,hmt,if_neg hro',hgb,(kD hko hd).1,if_true,hf]
      |some y0=>
       obtain ⟨j,n,f1,f2,f3,f4,f5⟩:=Bw hko hd 0 hent hq;refine go (zf k' v' ents j) ck (f5 y v' hd2) ?_;have hkk:=KE hko f4 hd;rw [Nat.zero_add] at f1;simp only [fw,hmt,if_neg hro',hgb,(kD hko hd).1,if_true,f1,f3,hkk,(kD hko hd).2.1]
    .cases h
   .cases h
  .cases h
 .cases h
theorem BJ (hs:au P hint sh Γ Pu H I) {t:TypeId} {n:Option TV} {n':Option Value} (h:lK P sh H t n K=some r) (hn:dW Γ Pu I n n'):Good P hint sh K r Γ Pu H I (an (bZ P I t n')):=by
 unfold lK at h;split at h
 .rename_i kt e hm
  split at h
  .rename_i ks es gk ge _ _ _ _
   replace h:=ad h;obtain ⟨hb,h⟩:=h;replace hb:=ae hb;obtain ⟨hb,hko⟩:=hb
   obtain ⟨s1,e1⟩:=hs.new (.map kt gk ge ks es [] false) (.map [] 0) ⟨some (I.n,0),0,0,0⟩ 0 rfl
    ⟨hko,.inr ⟨I.n,[],0,rfl,hs.ro,(fun h=>by cases h),by rw [IH.ay,if_pos rfl],rfl⟩⟩
   have hgr:GR (Γ.up H.n ⟨some (I.n,0),0,0,0⟩) Pu (I.new (.map [] 0)) (.mp H.n) (.map (some I.n)):= .mp (l:=⟨some (I.n,0),0,0,0⟩) (by simp [aN.up]) rfl;have hev:bZ P I t n'=some (.val (.map (some I.n)) (I.new (.map [] 0))):=by
    have hu:P.underlying t=some (.map kt e):=by
     unfold pr at hm;split at hm
     .grind
     .cases hm
    cases n with
    |none=>cases n' with
     |none=>rfl
     |some _=>cases hn
    |some n=>cases n' with
     |none=>cases hn
     |some v=>
      cases n with
      |int k m=>
       have hn':GR Γ Pu I (.int k m) v:=by cases hn;assumption
       cases hn';simp only [bZ,hu]
      |_=>cases hb
   rw [hev];exact ⟨_,_,_,_,_,_,h,rfl,hgr,s1,e1⟩
  .cases h
 .cases h
end
end Go.Gv
