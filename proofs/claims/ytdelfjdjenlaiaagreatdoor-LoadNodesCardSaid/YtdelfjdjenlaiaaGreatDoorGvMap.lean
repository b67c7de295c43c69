/- The pure evaluator's operations are the ideal one's: maps. -/
import Derived.Test.YtdelfjdjenlaiaaGreatDoorGvOpsY
set_option linter.unusedSimpArgs false
set_option linter.unusedVariables false
namespace Go.Gv
open Go Go.Iv
section
variable {β:Type} {P:Program} {hint:Hint} {sh:cw} {Γ Γ1:bc} {Pu Pu1:Nat->Prop} {H H1:GH} {I I1:IH} {K:TV->GH->Option β} {r:β}
theorem N4 {H H1:GH} {t t':TV} (h:tB H t=some (t',H1)):t.one=true:=by
 cases t with
 |agg l=>cases h
 |jj l=>cases h
 |undef=>cases h
 |HW w=>cases h
 |raw v=>
  unfold tB at h;split at h
  all_goals first
   |(rename_i hh;cases hh;rfl)
   |(rename_i hh;cases hh;done)
   |(cases h;done)
   |rfl
 |_=>rfl
theorem Bi:∀ {l l':List TV} {H H1:GH},iv l H=some (l',H1)->l.all TV.one=true:=by
 intro l
 induction l with
 |nil=>intro l' H H1 _;rfl
 |cons t r ih=>
  intro l' H H1 h;unfold iv at h;split at h
  ·rename_i h1
   split at h
   ·rename_i h2
    simp only [List.all_cons,zae];exact ⟨N4 h1,ih h2⟩
   ·cases h
  ·cases h
theorem Sh.Wt:∀ {s:Sh} {x y:s.ty},s.Bm x y=true->x=y:=by
 intro s
 induction s with
 |int k=>intro x y h;exact eq_of_beq (α:=Int) h
 |byte=>intro x y h;exact eq_of_beq (α:=UInt8) h
 |bool=>intro x y h;exact eq_of_beq (α:=Bool) h
 |str=>intro x y h;exact eq_of_beq (α:=List UInt8) h
 |cons a b iha ihb=>
  intro x y h;replace h:=af h;exact Prod.ext (iha h.1) (ihb h.2)
 |aJ e _=>intro x y h;cases h
theorem uS {t:TypeId} {s:Sh} {x:s.ty} {vs:List Value} (hc:fS P t s=true) (he:cq Pu I s x vs):
  ∃ v d,vs= [v]/\aV v=true/\P.underlying t=some d/\(∀ fs,d≠ .struct fs)/\(∀ n e,d≠ .array n e)/\(∀ n em,bM P (Instr.checkKey em (n+1) t v)=some ())/\(∀ n,Instr.sameBits n v v=true):=by
 have go:∀ {v:Value} {d:TypeDesc},P.underlying t=some d->(∀ fs,d≠ .struct fs)->(∀ n e,d≠ .array n e)->(∀ m,d≠ .interface m)->∀ n em,bM P (Instr.checkKey em (n+1) t v)=some ():=by
  intro v d hu h1 h2 h3 n em;unfold Instr.checkKey;rw [aP _ _ _ (bo hu)];cases d<;>first |rfl |exact absurd rfl (h1 _) |exact absurd rfl (h2 _ _) |exact absurd rfl (h3 _)
 unfold fS at hc;split at hc
 ·split at hc
  ·rename_i hu
   unfold cq at he;subst he;exact ⟨_,_,rfl,rfl,hu,by intros;simp,by intros;simp,go hu (by intros;simp) (by intros;simp) (by intros;simp),fun n=>by cases n<;>simp [Instr.sameBits]⟩
  ·cases hc
 ·split at hc
  ·rename_i hu
   unfold cq at he;subst he;exact ⟨_,_,rfl,rfl,hu,by intros;simp,by intros;simp,go hu (by intros;simp) (by intros;simp) (by intros;simp),fun n=>by cases n<;>simp [Instr.sameBits]⟩
  ·cases hc
 ·split at hc
  ·rename_i hu
   unfold cq at he;subst he;exact ⟨_,_,rfl,rfl,hu,by intros;simp,by intros;simp,go hu (by intros;simp) (by intros;simp) (by intros;simp),fun n=>by cases n<;>simp [Instr.sameBits]⟩
  ·cases hc
 ·split at hc
  ·rename_i hu
   unfold cq at he;subst he;exact ⟨_,_,rfl,rfl,hu,by intros;simp,by intros;simp,go hu (by intros;simp) (by intros;simp) (by intros;simp),fun n=>by
    have e:(ba x==ba x)=true:=by
     show ((⟨x⟩:Array UInt8)==⟨x⟩)=true
     simp
    cases n<;>simpa [Instr.sameBits] using e⟩
  ·cases hc
 ·cases hc
theorem KZ {t:TypeId} {s:Sh} (x y:s.ty) (hc:fS P t s=true):∃ a b,s.dc x= [a]/\s.dc y= [b]/\Fm P t a b=some (s.Bm x y):=by
 unfold fS at hc;split at hc
 ·split at hc
  ·rename_i hu
   exact ⟨_,_,rfl,rfl,by simp [Fm,hu,Sh.Bm]⟩
  ·cases hc
 ·split at hc
  ·rename_i hu
   exact ⟨_,_,rfl,rfl,by simp [Fm,hu,Sh.Bm]⟩
  ·cases hc
 ·split at hc
  ·rename_i hu
   exact ⟨_,_,rfl,rfl,by simp [Fm,hu,Sh.Bm]⟩
  ·cases hc
 ·split at hc
  ·rename_i hu
   exact ⟨_,_,rfl,rfl,by simp [Fm,hu,Sh.Bm]⟩
  ·cases hc
 ·cases hc
theorem Xj:∀ {fs:List Field} {i:Nat} {s:Sh} (x y:s.ty),qX P fs i s=true->HS P fs i (s.dc x) (s.dc y)=some (s.Bm x y):=by
 intro fs
 induction fs with
 |nil=>intro i s x y h;unfold qX at h;cases h
 |cons f r ih=>
  intro i s x y h;cases r with
  |nil=>
   simp only [qX] at h;replace h:=af h;obtain ⟨h1,h2⟩:=h;obtain ⟨a,b,e1,e2,e3⟩:=KZ x y h2;rw [e1,e2];simp only [HS,h1,zac,e3,Bool.and_true]
  |cons q r=>
   cases s with
   |cons a b=>
    simp only [qX] at h;replace h:=af h;obtain ⟨h,h3⟩:=h;replace h:=af h;obtain ⟨h1,h2⟩:=h;obtain ⟨u,v,e1,e2,e3⟩:=KZ x.1 y.1 h2;have e4:=ih x.2 y.2 h3;simp only [Sh.dc,e1,e2,List.singleton_append];rw [HS,h1,zac,e3,e4];rfl
   |_=>cases h
theorem GF {n:Nat} {em:Bool} {cs:Array Value}:∀ {fs:List Field} {i:Nat} {s:Sh} {x:s.ty} {vs:List Value},qX P fs i s=true->cq Pu I s x vs->cs.toList.drop i=vs->
  bM P (do
   for f in fs do
    if f.name ≠ "_" then Instr.checkKey em (n + 1) f.type (← part f.type cs f.offset)) = some () /\ vs.all aV = true /\ (∀ m, (vs.zip vs).all (fun p => Instr.sameBits m p.1 p.2) = true) := by
 intro fs
 induction fs with
 |nil=>intro i s x vs h;unfold qX at h;cases h
 |cons f r ih=>
  intro i s x vs h he hd
  have key : ∀ {v : Value} {ws : List Value} {s' : Sh} {x' : s'.ty}, (f.name != "_" && Nat.beq f.offset i) = true -> fS P f.type s' = true -> cq Pu I s' x' [v] -> vs = v :: ws ->
    (bM P (do
     for f in r do
      if f.name ≠ "_" then Instr.checkKey em (n + 1) f.type (← part f.type cs f.offset)) = some () /\ ws.all aV = true /\ (∀ m, (ws.zip ws).all (fun p => Instr.sameBits m p.1 p.2) = true)) ->
    bM P (do
     for f in f::r do
      if f.name ≠ "_" then Instr.checkKey em (n + 1) f.type (← part f.type cs f.offset)) = some () /\ vs.all aV = true /\ (∀ m, (vs.zip vs).all (fun p => Instr.sameBits m p.1 p.2) = true) := by
   intro v ws s' x' hn hc hev hvs hr;replace hn:=af hn;have hname : f.name ≠ "_" := by simpa using hn.1
   have hoff:f.offset=i:=beq_true hn.2;obtain ⟨v',d,e0,e1,hu,n1,n2,e3,e4⟩:=uS hc hev;cases e0;have hvi:cs[f.offset]? =some v:=by
    rw [hoff,←Array.getElem?_toList,←List.head?_drop,hd,hvs];rfl
   refine ⟨?_,by simp [hvs,e1,hr.2.1],fun m=>by simp [hvs,e4 m];exact fun a b=>by simpa using List.all_eq_true.1 (hr.2.2 m) (a,b)⟩;simp only [List.forIn_cons,hname,ne_eq,not_false_eq_true,if_true,bind_assoc];rw [aP _ _ _ (rB hu n1 n2 hvi),aP _ _ _ (e3 n em)];simp only [pure_bind];exact hr.1
  cases r with
  |nil=>
   simp only [qX] at h;replace h:=af h;obtain ⟨h1,h2⟩:=h;obtain ⟨v,d,e0,_⟩:=uS h2 he;subst e0;exact key h1 h2 he rfl ⟨rfl,rfl,fun _=>rfl⟩
  |cons q r=>
   cases s with
   |cons a b=>
    simp only [qX] at h;replace h:=af h;obtain ⟨h,h3⟩:=h;replace h:=af h;obtain ⟨h1,h2⟩:=h;unfold cq at he;obtain ⟨u,w,rfl,ea,eb⟩:=he;obtain ⟨v,d,e0,_⟩:=uS h2 ea;subst e0;refine key h1 h2 ea rfl (ih h3 eb ?_);rw [←zah,hd];rfl
   |_=>cases h
theorem kH {kt:TypeId} {g:Bool} {k:Sh} {x:k.ty} {v:Value} (hk:nD P kt g k=true) (hd:tn Pu I g k x v):
  (∀ em,kX P em kt v=true)/\Instr.sameBits 10000 v v=true/\∀ {y:k.ty} {w:Value},tn Pu I g k y w->fx P kt v w=some (k.Bm x y):=by
 obtain ⟨h1,h2,h3⟩:=hd;unfold nD at hk;split at hk
 ·rename_i fs hu
  replace hk:=af hk;obtain ⟨hk,hf⟩:=hk;replace hk:=af hk;obtain ⟨hg,hst⟩:=hk;obtain ⟨cs,rfl⟩:=h2 hg;refine ⟨fun em=>?_,?_,fun {y w} hd2=>?_⟩
  ·obtain ⟨c1,c2,_⟩:=GF (n:=9998) (em:=em) (cs:=cs) hf h1 rfl
   have hrun:bM P (Instr.checkKey em 10000 kt (.agg cs))=some ():=by
    show bM P (Instr.checkKey em (9999+1) kt (.agg cs))=some ()
    unfold Instr.checkKey;rw [aP _ _ _ (bo hu)];simp only [];rw [←Array.forIn_toList];exact c1
   have c2':cs.toList.all aV=true:=c2;simp only [kX,hu,c2',hrun,Bool.and_self]
  ·obtain ⟨_,_,c3⟩:=GF (n:=9998) (em:=true) (cs:=cs) hf h1 rfl
   show Instr.sameBits (9999+1) (.agg cs) (.agg cs)=true
   unfold Instr.sameBits;simp only [beq_self_eq_true,Bool.true_and];exact c3 9999
  ·obtain ⟨g1,g2,g3⟩:=hd2
   obtain ⟨ds,rfl⟩:=g2 hg;have ha:=h1.dc (Γ:=fun _=>none);have hb:=g1.dc (Γ:=fun _=>none);obtain ⟨k1,_⟩:=Lj (d:=9998) (xs:=cs) (ys:=ds) (Xj x y hf) ha hb rfl rfl
   show bM P (Op.equal kt (.agg cs) (.agg ds))=_
   unfold Op.equal
   show bM P (Op.equalIn (9999+1) kt (.agg cs) (.agg ds))=_
   unfold Op.equalIn;rw [aP _ _ _ (bo hu)];simp only [];have hst':P.stoodInHeld kt=false:=by simpa using hst
   rw [aP _ _ _ (gX P),hst'];simp only [Bool.false_eq_true,if_false];rw [←Array.forIn_toList];exact (s6 9999 cs ds fs.toList).trans k1
 ·replace hk:=af hk;obtain ⟨hg,hc⟩:=hk
  have hg':g=false:=by simpa using hg
  rw [h3 hg'] at h1;refine ⟨fun em=>?_,?_,fun {y w} hd2=>?_⟩
  ·unfold fS at hc
   unfold kX
   split at hc<;>(try split at hc)<;>first
    |(cases hc;done)
    |(rename_i hu;unfold cq at h1;cases h1;rw [hu])
  ·obtain ⟨v',_,e0,_,_,_,_,_,e4⟩:=uS hc h1
   cases e0;exact e4 _
  ·obtain ⟨g1,g2,g3⟩:=hd2
   rw [g3 hg'] at g1;unfold fS at hc;split at hc
   ·split at hc
    ·unfold cq at h1 g1;cases h1;cases g1;simp [fx,Sh.Bm]
    ·cases hc
   ·split at hc
    ·unfold cq at h1 g1;cases h1;cases g1
     simp only [fx,if_true,Sh.Bm];rw [←uX]
    ·cases hc
   ·split at hc
    ·unfold cq at h1 g1;cases h1;cases g1;simp [fx,Sh.Bm]
    ·cases hc
   ·split at hc
    ·unfold cq at h1 g1;cases h1;cases g1;simp only [fx,Sh.Bm];rfl
    ·cases hc
   ·cases hc
theorem Pl {g:Bool} {k:Sh} {t:TV} {v:Value} {x:k.ty} (h:(bif g then XV t else t.one)=true) (he:cq Pu I k x v.cells.toList) (hr:GR Γ Pu I t v):tn Pu I g k x v:=by
 cases g with
 |true=>
  cases t with
  |agg cs=>cases hr with |agg hr=>exact ⟨he,fun _=>⟨_,rfl⟩,fun h=>by cases h⟩
  |_=>cases h
 |false=>exact ⟨he,(fun h=>by cases h),fun _=>jD (hr.one h)⟩
theorem BD {g:Bool} {k:Sh} {t:TV} {v:Value} {x:k.ty} (h:Sf g k t=some x) (hr:GR Γ Pu I t v):tn Pu I g k x v:=by
 unfold Sf at h;replace h:=ae h;obtain ⟨hg,h⟩:=h;refine Pl hg (Sh.eh (Γ:=Γ) h ?_) hr;cases g with
 |true=>
  cases t with
  |agg cs=>cases hr with |agg hr=>exact hr
  |_=>cases hg
 |false=>
  have h1:t.one=true:=hg;rw [jD (hr.one h1),TV.Hh h1];exact .cons hr .nil
theorem KL {kt:TypeId} {gk ge:Bool} {k e:Sh} {x:k.ty} {v:Value} (hk:nD P kt gk k=true) (hd:tn Pu I gk k x v):∀ {xs:List (k.ty×e.ty)} {es:List MapEntry} (i:Nat),na Pu I gk ge k e xs es->gT k xs x=none->iN P kt v es i=some none:=by
 intro xs
 induction xs with
 |nil=>intro es i h _;unfold na at h;subst h;rfl
 |cons p r ih=>
  intro es i h hm;obtain ⟨n,t,rfl,h1,h2,h3⟩:=h;have hc:=(kH hk hd).2.2 h1;unfold gT at hm;cases hq:k.Bm x p.1 with
  |true=>rw [hq] at hm;cases hm
  |false=>
   rw [hq] at hm hc;simp only [iN,hc];exact ih (i+1) h3 hm
theorem Vy {gk ge:Bool} {k e:Sh} {x:k.ty} {y:e.ty} {v w:Value} {ck:Nat} (hd:tn Pu I gk k x v) (hw:tn Pu I ge e y w):∀ {xs:List (k.ty×e.ty)} {es:List MapEntry},na Pu I gk ge k e xs es->gT k xs x=none->
  na Pu I gk ge k e (iV k xs x y) (es++ [{ key:=v,val:=w,born:=ck }]):=by
 intro xs
 induction xs with
 |nil=>intro es h _;unfold na at h;subst h;exact ⟨_,_,rfl,hd,hw,rfl⟩
 |cons p r ih=>
  intro es h hm;obtain ⟨n,t,rfl,h1,h2,h3⟩:=h;unfold gT at hm;cases hq:k.Bm x p.1 with
  |true=>rw [hq] at hm;cases hm
  |false=>
   rw [hq] at hm;simp only [iV,hq,zab];exact ⟨_,_,rfl,h1,h2,ih h3 hm⟩
theorem Hf {kt:TypeId} {gk ge:Bool} {k e:Sh} {x:k.ty} {y:e.ty} {v:Value} (hk:nD P kt gk k=true) (hd:tn Pu I gk k x v):∀ {xs:List (k.ty×e.ty)} {es:List MapEntry} (i:Nat),na Pu I gk ge k e xs es->gT k xs x=some y->
  ∃ j n,iN P kt v es i=some (some (i+j,n.val))/\tn Pu I ge e y n.val/\es[j]? =some n/\tn Pu I gk k x n.key/\∀ (y':e.ty) (w:Value),tn Pu I ge e y' w->na Pu I gk ge k e (iV k xs x y') (B2 v w es j):=by
 intro xs
 induction xs with
 |nil=>intro es i _ h;cases h
 |cons p r ih=>
  intro es i h hm;obtain ⟨n,t,rfl,h1,h2,h3⟩:=h;have hc:=(kH hk hd).2.2 h1;unfold gT at hm;cases hq:k.Bm x p.1 with
  |true=>
   rw [hq] at hm hc;cases hm;refine ⟨0,n,by simp only [iN,hc];rfl,h2,rfl,by rw [Sh.Wt hq];exact h1,fun y' w hw=>?_⟩;simp only [iV,hq,zac];exact ⟨_,_,rfl,hd,hw,h3⟩
  |false=>
   rw [hq] at hm hc;obtain ⟨j,n',f1,f2,f3,f4,f5⟩:=ih (i+1) h3 hm;refine ⟨j+1,n',by simp only [iN,hc,f1];rw [Nat.add_right_comm,Nat.add_assoc],f2,f3,f4,fun y' w hw=>?_⟩;simp only [iV,hq,zab];exact ⟨_,_,rfl,h1,h2,f5 y' w hw⟩
theorem Sb {kt:TypeId} {g:Bool} {k:Sh} {x:k.ty} {v w:Value} (hk:nD P kt g k=true) (hd:tn Pu I g k x v) (hd2:tn Pu I g k x w):v=w:=by
 have flat:∀ {fs:List Field} {i:Nat} {s:Sh} {x:s.ty} {vs ws:List Value},qX P fs i s=true->cq Pu I s x vs->cq Pu I s x ws->vs=ws:=by
  intro fs
  induction fs with
  |nil=>intro i s x vs ws h;unfold qX at h;cases h
  |cons f r ih=>
   intro i s x vs ws h h1 h2;cases r with
   |nil=>
    simp only [qX] at h;replace h:=(af h).2;unfold fS at h;split at h<;>first |(unfold cq at h1 h2;rw [h1,h2]) |cases h
   |cons q r=>
    cases s with
    |cons a b=>
     simp only [qX] at h;replace h:=af h;obtain ⟨h,h3⟩:=h;replace h:=(af h).2;unfold cq at h1 h2;obtain ⟨u,w,rfl,ea,eb⟩:=h1;obtain ⟨u',w',rfl,ea',eb'⟩:=h2;rw [ih h3 eb eb']
     congr 1
     unfold fS at h;split at h<;>first |(unfold cq at ea ea';rw [ea,ea']) |cases h
    |_=>cases h
 obtain ⟨h1,h2,h3⟩:=hd;obtain ⟨g1,g2,g3⟩:=hd2;unfold nD at hk;split at hk
 ·replace hk:=af hk;obtain ⟨hk,hf⟩:=hk
  have hg:=(af hk).1;obtain ⟨cs,rfl⟩:=h2 hg;obtain ⟨ds,rfl⟩:=g2 hg;have:=flat hf h1 g1;have e:cs=ds:=Array.ext' this;rw [e]
 ·replace hk:=af hk;obtain ⟨hg,hc⟩:=hk
  have hg':g=false:=by simpa using hg
  rw [h3 hg'] at h1;rw [g3 hg'] at g1;unfold fS at hc;split at hc<;>first |(unfold cq at h1 g1;cases h1;cases g1;rfl) |cases hc
theorem Fv {e:TypeId} {ge:Bool} {es:Sh} {z:es.ty} (h:L2 P e ge es=some z):∃ zv,zeroOf P e=some zv/\tn Pu I ge es z zv:=by
 unfold L2 at h;split at h
 ·rename_i zv hz
  replace h:=ae h;obtain ⟨hb,h⟩:=h;replace hb:=af hb;refine ⟨zv,hz,Sh.eh (Γ:=fun _=>none) h (de hb.2),fun hg=>?_,fun hg=>?_⟩
  ·subst hg
   cases zv<;>first |exact ⟨_,rfl⟩ |(exact absurd hb.1 (by simp))
  ·subst hg
   cases zv<;>first |rfl |(exact absurd hb.1 (by simp))
 ·cases h
theorem mL {ok b:Bool} {t:TV} {v:Value} (h:GR Γ Pu I t v):GR Γ Pu I (bif ok then .jj [t,.bool b] else t) (ft ok v b):=by
 cases ok with
 |true=>exact .jj (.cons h (.cons (.bool b) .nil))
 |false=>exact h
theorem JK (hs:aw P hint sh Γ Pu H I) {t:TypeId} {x k:TV} {x' k':Value} {ok:Bool} (h:B7 P sh H t x k ok K=some r) (hx:GR Γ Pu I x x') (hk:GR Γ Pu I k k'):Good P hint sh K r Γ Pu H I (aq (cP P I t x' k' ok)):=by
 unfold B7 at h;split at h
 ·rename_i kt e id hm
  cases hx with |mp hl hv=>
  rename_i l;split at h
  ·rename_i kt' gk ge ks es xs em hg
   replace h:=ae h;obtain ⟨hkb,h⟩:=h;have hkt:=beq_true hkb;subst hkt;split at h
   ·rename_i kx z hkx hz
    have hd:=BD hkx hk;obtain ⟨zv,hzv,hzd⟩:=Fv (Pu:=Pu) (I:=I) hz;obtain ⟨l',hl',ho⟩:=hs.obj id _ hg;cases hl.symm.trans hl';unfold Sy at hv;rcases ho with ⟨hko,⟨hp,hx0,hem⟩ |⟨b,ents,ck,hp,hro,hne,hgb,hent⟩⟩
    ·rw [hp] at hv;subst hv hx0
     simp only [cP,hm,(kH hko hd).1 true,if_true,hzv,aq];exact Good.same hs h (mL hzd.gr)
    ·rw [hp] at hv;subst hv
     cases hq:gT ks xs kx with
     |none=>
      have hf:=KL hko hd 0 hent hq;simp only [cP,hm,hgb,(kH hko hd).1,if_true,hf,hzv,aq];simp only [nz,E8,hq,Option.getD_none,Option.isSome_none] at h;exact Good.same hs h (mL hzd.gr)
     |some y=>
      obtain ⟨j,n,f1,f2,_⟩:=Hf hko hd 0 hent hq;simp only [cP,hm,hgb,(kH hko hd).1,if_true,f1,aq];simp only [nz,E8,hq,Option.getD_some,Option.isSome_some] at h;exact Good.same hs h (mL f2.gr)
   ·cases h
  ·cases h
 ·rename_i kt e hm
  cases hx;split at h
  ·rename_i ks es hks hes
   replace h:=ae h;obtain ⟨hko,h⟩:=h;split at h
   ·rename_i kx ge hkx hge
    split at h
    ·rename_i z hz
     have hd:=BD hkx hk;obtain ⟨zv,hzv,hzd⟩:=Fv (Pu:=Pu) (I:=I) hz;simp only [cP,hm,(kH hko hd).1 true,if_true,hzv,aq];exact Good.same hs h (mL hzd.gr)
    ·cases h
   ·cases h
  ·cases h
 ·cases h
theorem Te {k:Sh} {β:Type}:∀ (l:List (k.ty×β)) (x:k.ty) (y:β),iV k l x y≠ []:=by
 intro l x y;cases l with
 |nil=>simp [iV]
 |cons p r=>unfold iV;cases k.Bm x p.1<;>simp
theorem HQ (hs:aw P hint sh Γ Pu H I) {t:TypeId} {m k v:TV} {m' k' v':Value} (h:B0 dR P H t m k v K=some r) (hm:GR Γ Pu I m m') (hk:GR Γ Pu I k k') (hv:GR Γ Pu I v v'):Good P hint sh K r Γ Pu H I (aq (eK P I t m' k' v')):=by
 unfold B0 at h;split at h
 ·rename_i kt e id hmt
  cases hm with |mp hl hmv=>
  rename_i l;split at h
  ·rename_i cs H1 hpl
   have hone:=Bi hpl;obtain ⟨Pu1,s1,e1,r1⟩:=gB hs hpl (hv.cells hone);have k1:=e1.cJ hs;split at h
   ·rename_i kt' gk ge ks es xs em hg
    replace h:=ae h;obtain ⟨hb,h⟩:=h;replace hb:=af hb;obtain ⟨hkb,hag⟩:=hb;have hkt:=beq_true hkb;subst hkt;split at h
    ·rename_i kx y hkx hy
     replace h:=aE h;obtain ⟨hn,h⟩:=h;have hd:=(BD hkx hk).mono k1.p k1.i;have hd2:tn Pu1 I ge es y v':=Pl hag (Sh.eh hy r1) (hv.mono k1);have hl1:=e1.g _ _ hl;obtain ⟨l',hl',ho⟩:=s1.obj id _ hg;cases hl1.symm.trans hl';unfold Sy at hmv;rcases ho with ⟨hko,⟨hp,hx0,hem⟩ |⟨b,ents,ck,hp,hro,hne,hgb,hent⟩⟩
     ·rw [hx0,hem] at hn;cases hn
     ·rw [hp] at hmv;subst hmv
      have hnp:¬ Pu1 b:=s1.sep b (.pos hg rfl hl1 hp);have go:∀ (es':List MapEntry) (ck':Nat),na Pu1 I gk ge ks es (iV ks xs kx y) es'->eK P I t (.map (some b)) k' v'=some (.skip (I.put b (.map es' ck')))->Good P hint sh K r Γ Pu H I (aq (eK P I t (.map (some b)) k' v')):=by
       intro es' ck' hE hev;have kk:cD Γ Pu1 I Γ Pu1 (I.put b (.map es' ck')):=⟨fun _ _ h=>h,fun _ h=>h,fun b' hb'=>by rw [IH.ah,if_neg (by rintro rfl;exact hnp hb')]⟩
       obtain ⟨s2,e2⟩:=s1.gW hg rfl hl1 hp (.map kt gk ge ks es (iV ks xs kx y) em) (.map es' ck')
        ⟨hko,.inr ⟨b,es',ck',hp,hro,fun _=>Te _ _ _,by rw [IH.ah,if_pos rfl],hE.mono kk.p kk.i⟩⟩
       rw [hev];exact ⟨_,_,_,_,_,_,h,rfl,.undef _,s2,Ex.trans hs s1 e1 e2⟩
      have hro':¬ b<dJ:=by omega
      cases hq:gT ks xs kx with
      |none=>
       have hf:=KL hko hd 0 hent hq;refine go (ents++ [{ key:=k',val:=v',born:=ck }]) (ck+1) (Vy hd hd2 hent hq) ?_;simp only [eK,hmt,if_neg hro',hgb,(kH hko hd).1,if_true,hf]
      |some y0=>
       obtain ⟨j,n,f1,f2,f3,f4,f5⟩:=Hf hko hd 0 hent hq;refine go (B2 k' v' ents j) ck (f5 y v' hd2) ?_;have hkk:=Sb hko f4 hd;rw [Nat.zero_add] at f1;simp only [eK,hmt,if_neg hro',hgb,(kH hko hd).1,if_true,f1,f3,hkk,(kH hko hd).2.1]
    ·cases h
   ·cases h
  ·cases h
 ·cases h
theorem Ht (hs:aw P hint sh Γ Pu H I) {t:TypeId} {n:Option TV} {n':Option Value} (h:lW P sh H t n K=some r) (hn:dX Γ Pu I n n'):Good P hint sh K r Γ Pu H I (aq (cb P I t n')):=by
 unfold lW at h;split at h
 ·rename_i kt e hm
  split at h
  ·rename_i ks es gk ge _ _ _ _
   replace h:=ae h;obtain ⟨hb,h⟩:=h;replace hb:=af hb;obtain ⟨hb,hko⟩:=hb
   obtain ⟨s1,e1⟩:=hs.new (.map kt gk ge ks es [] false) (.map [] 0) ⟨some (I.n,0),0,0,0⟩ 0 rfl
    ⟨hko,.inr ⟨I.n,[],0,rfl,hs.ro,(fun h=>by cases h),by rw [IH.az,if_pos rfl],rfl⟩⟩
   have hgr:GR (Γ.up H.n ⟨some (I.n,0),0,0,0⟩) Pu (I.new (.map [] 0)) (.mp H.n) (.map (some I.n)):= .mp (l:=⟨some (I.n,0),0,0,0⟩) (by simp [bc.up]) rfl;have hev:cb P I t n'=some (.val (.map (some I.n)) (I.new (.map [] 0))):=by
    have hu:P.underlying t=some (.map kt e):=by
     unfold qk at hm;split at hm
     ·rename_i hu;cases hm;exact hu
     ·cases hm
    cases n with
    |none=>cases n' with
     |none=>rfl
     |some _=>cases hn
    |some n=>cases n' with
     |none=>cases hn
     |some v=>
      cases n with
      |int k m=>
       have hn':GR Γ Pu I (.int k m) v:=by cases hn;assumption
       cases hn';simp only [cb,hu]
      |_=>cases hb
   rw [hev];exact ⟨_,_,_,_,_,_,h,rfl,hgr,s1,e1⟩
  ·cases h
 ·cases h
end
end Go.Gv
