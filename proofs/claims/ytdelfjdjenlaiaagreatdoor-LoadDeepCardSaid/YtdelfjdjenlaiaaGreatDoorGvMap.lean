/- The pure evaluator's operations are the ideal one's: maps. -/
import Derived.Test.YtdelfjdjenlaiaaGreatDoorGvOpsY
set_option linter.unusedSimpArgs false
set_option linter.unusedVariables false
namespace Go.Gv
open Go Go.Iv
section
variable {β:Type} {P:Program} {hint:Hint} {sh:cA} {Γ Γ1:bc} {Pu Pu1:Nat->Prop} {H H1:GH} {I I1:IH} {K:TV->GH->Option β} {r:β}
theorem MW {H H1:GH} {t t':TV} (h:ti H t=some (t',H1)):t.one=true:=by
 cases t with
 |agg l=>cases h
 |jg l=>cases h
 |undef=>cases h
 |H5 w=>cases h
 |raw v=>
  unfold ti at h;split at h
  all_goals first
   |(rename_i hh;cases hh;rfl)
   |(rename_i hh;cases hh;done)
   |(cases h;done)
   |rfl
 |_=>rfl
theorem A3:∀ {l l':List TV} {H H1:GH},iF l H=some (l',H1)->l.all TV.one=true:=by
 intro l
 induction l with
 |nil=>intro l' H H1 _;rfl
 |cons t r ih=>
  intro l' H H1 h;unfold iF at h;split at h
  ·rename_i h1
   split at h
   ·rename_i h2
    simp only [List.all_cons,zae];exact ⟨MW h1,ih h2⟩
   ·cases h
  ·cases h
theorem Sh.V9:∀ {s:Sh} {x y:s.ty},s.Ac x y=true->x=y:=by
 intro s
 induction s with
 |int k=>intro x y h;exact eq_of_beq (α:=Int) h
 |byte=>intro x y h;exact eq_of_beq (α:=UInt8) h
 |bool=>intro x y h;exact eq_of_beq (α:=Bool) h
 |str=>intro x y h;exact eq_of_beq (α:=List UInt8) h
 |cons a b iha ihb=>
  intro x y h;replace h:=af h;exact Prod.ext (iha h.1) (ihb h.2)
 |aJ e _=>intro x y h;cases h
theorem ve {t:TypeId} {s:Sh} {x:s.ty} {vs:List Value} (hc:gb P t s=true) (he:cy Pu I s x vs):
  ∃ v d,vs= [v]/\aV v=true/\P.underlying t=some d/\(∀ fs,d≠ .struct fs)/\(∀ n e,d≠ .array n e)/\(∀ n em,bQ P (Instr.checkKey em (n+1) t v)=some ())/\(∀ n,Instr.sameBits n v v=true):=by
 have go:∀ {v:Value} {d:TypeDesc},P.underlying t=some d->(∀ fs,d≠ .struct fs)->(∀ n e,d≠ .array n e)->(∀ m,d≠ .interface m)->∀ n em,bQ P (Instr.checkKey em (n+1) t v)=some ():=by
  intro v d hu h1 h2 h3 n em;unfold Instr.checkKey;rw [aP _ _ _ (bo hu)];cases d<;>first |rfl |exact absurd rfl (h1 _) |exact absurd rfl (h2 _ _) |exact absurd rfl (h3 _)
 unfold gb at hc;split at hc
 ·split at hc
  ·rename_i hu
   unfold cy at he;subst he;exact ⟨_,_,rfl,rfl,hu,by intros;simp,by intros;simp,go hu (by intros;simp) (by intros;simp) (by intros;simp),fun n=>by cases n<;>simp [Instr.sameBits]⟩
  ·cases hc
 ·split at hc
  ·rename_i hu
   unfold cy at he;subst he;exact ⟨_,_,rfl,rfl,hu,by intros;simp,by intros;simp,go hu (by intros;simp) (by intros;simp) (by intros;simp),fun n=>by cases n<;>simp [Instr.sameBits]⟩
  ·cases hc
 ·split at hc
  ·rename_i hu
   unfold cy at he;subst he;exact ⟨_,_,rfl,rfl,hu,by intros;simp,by intros;simp,go hu (by intros;simp) (by intros;simp) (by intros;simp),fun n=>by cases n<;>simp [Instr.sameBits]⟩
  ·cases hc
 ·split at hc
  ·rename_i hu
   unfold cy at he;subst he;exact ⟨_,_,rfl,rfl,hu,by intros;simp,by intros;simp,go hu (by intros;simp) (by intros;simp) (by intros;simp),fun n=>by
    have e:(ba x==ba x)=true:=by
     show ((⟨x⟩:Array UInt8)==⟨x⟩)=true
     simp
    cases n<;>simpa [Instr.sameBits] using e⟩
  ·cases hc
 ·cases hc
theorem Kq {t:TypeId} {s:Sh} (x y:s.ty) (hc:gb P t s=true):∃ a b,s.de x= [a]/\s.de y= [b]/\Ej P t a b=some (s.Ac x y):=by
 unfold gb at hc;split at hc
 ·split at hc
  ·rename_i hu
   exact ⟨_,_,rfl,rfl,by simp [Ej,hu,Sh.Ac]⟩
  ·cases hc
 ·split at hc
  ·rename_i hu
   exact ⟨_,_,rfl,rfl,by simp [Ej,hu,Sh.Ac]⟩
  ·cases hc
 ·split at hc
  ·rename_i hu
   exact ⟨_,_,rfl,rfl,by simp [Ej,hu,Sh.Ac]⟩
  ·cases hc
 ·split at hc
  ·rename_i hu
   exact ⟨_,_,rfl,rfl,by simp [Ej,hu,Sh.Ac]⟩
  ·cases hc
 ·cases hc
theorem Xz:∀ {fs:List Field} {i:Nat} {s:Sh} (x y:s.ty),oP P fs i s=true->Jg P fs i (s.de x) (s.de y)=some (s.Ac x y):=by
 intro fs
 induction fs with
 |nil=>intro i s x y h;unfold oP at h;cases h
 |cons f r ih=>
  intro i s x y h;cases r with
  |nil=>
   simp only [oP] at h;replace h:=af h;obtain ⟨h1,h2⟩:=h;obtain ⟨a,b,e1,e2,e3⟩:=Kq x y h2;rw [e1,e2];simp only [Jg,h1,zac,e3,Bool.and_true]
  |cons q r=>
   cases s with
   |cons a b=>
    simp only [oP] at h;replace h:=af h;obtain ⟨h,h3⟩:=h;replace h:=af h;obtain ⟨h1,h2⟩:=h;obtain ⟨u,v,e1,e2,e3⟩:=Kq x.1 y.1 h2;have e4:=ih x.2 y.2 h3;simp only [Sh.de,e1,e2,List.singleton_append];rw [Jg,h1,zac,e3,e4];rfl
   |_=>cases h
theorem G8 {n:Nat} {em:Bool} {cs:Array Value}:∀ {fs:List Field} {i:Nat} {s:Sh} {x:s.ty} {vs:List Value},oP P fs i s=true->cy Pu I s x vs->cs.toList.drop i=vs->
  bQ P (do
   for f in fs do
    if f.name ≠ "_" then Instr.checkKey em (n + 1) f.type (← part f.type cs f.offset)) = some () /\ vs.all aV = true /\ (∀ m, (vs.zip vs).all (fun p => Instr.sameBits m p.1 p.2) = true) := by
 intro fs
 induction fs with
 |nil=>intro i s x vs h;unfold oP at h;cases h
 |cons f r ih=>
  intro i s x vs h he hd
  have key : ∀ {v : Value} {ws : List Value} {s' : Sh} {x' : s'.ty}, (f.name != "_" && Nat.beq f.offset i) = true -> gb P f.type s' = true -> cy Pu I s' x' [v] -> vs = v :: ws ->
    (bQ P (do
     for f in r do
      if f.name ≠ "_" then Instr.checkKey em (n + 1) f.type (← part f.type cs f.offset)) = some () /\ ws.all aV = true /\ (∀ m, (ws.zip ws).all (fun p => Instr.sameBits m p.1 p.2) = true)) ->
    bQ P (do
     for f in f::r do
      if f.name ≠ "_" then Instr.checkKey em (n + 1) f.type (← part f.type cs f.offset)) = some () /\ vs.all aV = true /\ (∀ m, (vs.zip vs).all (fun p => Instr.sameBits m p.1 p.2) = true) := by
   intro v ws s' x' hn hc hev hvs hr;replace hn:=af hn;have hname : f.name ≠ "_" := by simpa using hn.1
   have hoff:f.offset=i:=beq_true hn.2;obtain ⟨v',d,e0,e1,hu,n1,n2,e3,e4⟩:=ve hc hev;cases e0;have hvi:cs[f.offset]? =some v:=by
    rw [hoff,←Array.getElem?_toList,←List.head?_drop,hd,hvs];rfl
   refine ⟨?_,by simp [hvs,e1,hr.2.1],fun m=>by simp [hvs,e4 m];exact fun a b=>by simpa using List.all_eq_true.1 (hr.2.2 m) (a,b)⟩;simp only [List.forIn_cons,hname,ne_eq,not_false_eq_true,if_true,bind_assoc];rw [aP _ _ _ (rT hu n1 n2 hvi),aP _ _ _ (e3 n em)];simp only [pure_bind];exact hr.1
  cases r with
  |nil=>
   simp only [oP] at h;replace h:=af h;obtain ⟨h1,h2⟩:=h;obtain ⟨v,d,e0,_⟩:=ve h2 he;subst e0;exact key h1 h2 he rfl ⟨rfl,rfl,fun _=>rfl⟩
  |cons q r=>
   cases s with
   |cons a b=>
    simp only [oP] at h;replace h:=af h;obtain ⟨h,h3⟩:=h;replace h:=af h;obtain ⟨h1,h2⟩:=h;unfold cy at he;obtain ⟨u,w,rfl,ea,eb⟩:=he;obtain ⟨v,d,e0,_⟩:=ve h2 ea;subst e0;refine key h1 h2 ea rfl (ih h3 eb ?_);rw [←zah,hd];rfl
   |_=>cases h
theorem kQ {kt:TypeId} {g:Bool} {k:Sh} {x:k.ty} {v:Value} (hk:nL P kt g k=true) (hd:sO Pu I g k x v):
  (∀ em,lr P em kt v=true)/\Instr.sameBits 10000 v v=true/\∀ {y:k.ty} {w:Value},sO Pu I g k y w->fQ P kt v w=some (k.Ac x y):=by
 obtain ⟨h1,h2,h3⟩:=hd;unfold nL at hk;split at hk
 ·rename_i fs hu
  replace hk:=af hk;obtain ⟨hk,hf⟩:=hk;replace hk:=af hk;obtain ⟨hg,hst⟩:=hk;obtain ⟨cs,rfl⟩:=h2 hg;refine ⟨fun em=>?_,?_,fun {y w} hd2=>?_⟩
  ·obtain ⟨c1,c2,_⟩:=G8 (n:=9998) (em:=em) (cs:=cs) hf h1 rfl
   have hrun:bQ P (Instr.checkKey em 10000 kt (.agg cs))=some ():=by
    show bQ P (Instr.checkKey em (9999+1) kt (.agg cs))=some ()
    unfold Instr.checkKey;rw [aP _ _ _ (bo hu)];simp only [];rw [←Array.forIn_toList];exact c1
   have c2':cs.toList.all aV=true:=c2;simp only [lr,hu,c2',hrun,Bool.and_self]
  ·obtain ⟨_,_,c3⟩:=G8 (n:=9998) (em:=true) (cs:=cs) hf h1 rfl
   show Instr.sameBits (9999+1) (.agg cs) (.agg cs)=true
   unfold Instr.sameBits;simp only [beq_self_eq_true,Bool.true_and];exact c3 9999
  ·obtain ⟨g1,g2,g3⟩:=hd2
   obtain ⟨ds,rfl⟩:=g2 hg;have ha:=h1.de (Γ:=fun _=>none);have hb:=g1.de (Γ:=fun _=>none);obtain ⟨k1,_⟩:=LJ (d:=9998) (xs:=cs) (ys:=ds) (Xz x y hf) ha hb rfl rfl
   show bQ P (Op.equal kt (.agg cs) (.agg ds))=_
   unfold Op.equal
   show bQ P (Op.equalIn (9999+1) kt (.agg cs) (.agg ds))=_
   unfold Op.equalIn;rw [aP _ _ _ (bo hu)];simp only [];have hst':P.stoodInHeld kt=false:=by simpa using hst
   rw [aP _ _ _ (hY P),hst'];simp only [Bool.false_eq_true,if_false];rw [←Array.forIn_toList];exact (sY 9999 cs ds fs.toList).trans k1
 ·replace hk:=af hk;obtain ⟨hg,hc⟩:=hk
  have hg':g=false:=by simpa using hg
  rw [h3 hg'] at h1;refine ⟨fun em=>?_,?_,fun {y w} hd2=>?_⟩
  ·unfold gb at hc
   unfold lr
   split at hc<;>(try split at hc)<;>first
    |(cases hc;done)
    |(rename_i hu;unfold cy at h1;cases h1;rw [hu])
  ·obtain ⟨v',_,e0,_,_,_,_,_,e4⟩:=ve hc h1
   cases e0;exact e4 _
  ·obtain ⟨g1,g2,g3⟩:=hd2
   rw [g3 hg'] at g1;unfold gb at hc;split at hc
   ·split at hc
    ·unfold cy at h1 g1;cases h1;cases g1;simp [fQ,Sh.Ac]
    ·cases hc
   ·split at hc
    ·unfold cy at h1 g1;cases h1;cases g1
     simp only [fQ,if_true,Sh.Ac];rw [←uZ]
    ·cases hc
   ·split at hc
    ·unfold cy at h1 g1;cases h1;cases g1;simp [fQ,Sh.Ac]
    ·cases hc
   ·split at hc
    ·unfold cy at h1 g1;cases h1;cases g1;simp only [fQ,Sh.Ac];rfl
    ·cases hc
   ·cases hc
theorem Pz {g:Bool} {k:Sh} {t:TV} {v:Value} {x:k.ty} (h:(bif g then WV t else t.one)=true) (he:cy Pu I k x v.cells.toList) (hr:GR Γ Pu I t v):sO Pu I g k x v:=by
 cases g with
 |true=>
  cases t with
  |agg cs=>cases hr with |agg hr=>exact ⟨he,fun _=>⟨_,rfl⟩,fun h=>by cases h⟩
  |_=>cases h
 |false=>exact ⟨he,(fun h=>by cases h),fun _=>kh (hr.one h)⟩
theorem Cf {g:Bool} {k:Sh} {t:TV} {v:Value} {x:k.ty} (h:Rl g k t=some x) (hr:GR Γ Pu I t v):sO Pu I g k x v:=by
 unfold Rl at h;replace h:=ae h;obtain ⟨hg,h⟩:=h;refine Pz hg (Sh.eg (Γ:=Γ) h ?_) hr;cases g with
 |true=>
  cases t with
  |agg cs=>cases hr with |agg hr=>exact hr
  |_=>cases hg
 |false=>
  have h1:t.one=true:=hg;rw [kh (hr.one h1),TV.GI h1];exact .cons hr .nil
theorem KR {kt:TypeId} {gk ge:Bool} {k e:Sh} {x:k.ty} {v:Value} (hk:nL P kt gk k=true) (hd:sO Pu I gk k x v):∀ {xs:List (k.ty×e.ty)} {es:List MapEntry} (i:Nat),np Pu I gk ge k e xs es->gY k xs x=none->iU P kt v es i=some none:=by
 intro xs
 induction xs with
 |nil=>intro es i h _;unfold np at h;subst h;rfl
 |cons p r ih=>
  intro es i h hm;obtain ⟨n,t,rfl,h1,h2,h3⟩:=h;have hc:=(kQ hk hd).2.2 h1;unfold gY at hm;cases hq:k.Ac x p.1 with
  |true=>rw [hq] at hm;cases hm
  |false=>
   rw [hq] at hm hc;simp only [iU,hc];exact ih (i+1) h3 hm
theorem VJ {gk ge:Bool} {k e:Sh} {x:k.ty} {y:e.ty} {v w:Value} {ck:Nat} (hd:sO Pu I gk k x v) (hw:sO Pu I ge e y w):∀ {xs:List (k.ty×e.ty)} {es:List MapEntry},np Pu I gk ge k e xs es->gY k xs x=none->
  np Pu I gk ge k e (iW k xs x y) (es++ [{ key:=v,val:=w,born:=ck }]):=by
 intro xs
 induction xs with
 |nil=>intro es h _;unfold np at h;subst h;exact ⟨_,_,rfl,hd,hw,rfl⟩
 |cons p r ih=>
  intro es h hm;obtain ⟨n,t,rfl,h1,h2,h3⟩:=h;unfold gY at hm;cases hq:k.Ac x p.1 with
  |true=>rw [hq] at hm;cases hm
  |false=>
   rw [hq] at hm;simp only [iW,hq,zab];exact ⟨_,_,rfl,h1,h2,ih h3 hm⟩
theorem Gk {kt:TypeId} {gk ge:Bool} {k e:Sh} {x:k.ty} {y:e.ty} {v:Value} (hk:nL P kt gk k=true) (hd:sO Pu I gk k x v):∀ {xs:List (k.ty×e.ty)} {es:List MapEntry} (i:Nat),np Pu I gk ge k e xs es->gY k xs x=some y->
  ∃ j n,iU P kt v es i=some (some (i+j,n.val))/\sO Pu I ge e y n.val/\es[j]? =some n/\sO Pu I gk k x n.key/\∀ (y':e.ty) (w:Value),sO Pu I ge e y' w->np Pu I gk ge k e (iW k xs x y') (Cw v w es j):=by
 intro xs
 induction xs with
 |nil=>intro es i _ h;cases h
 |cons p r ih=>
  intro es i h hm;obtain ⟨n,t,rfl,h1,h2,h3⟩:=h;have hc:=(kQ hk hd).2.2 h1;unfold gY at hm;cases hq:k.Ac x p.1 with
  |true=>
   rw [hq] at hm hc;cases hm;refine ⟨0,n,by simp only [iU,hc];rfl,h2,rfl,by rw [Sh.V9 hq];exact h1,fun y' w hw=>?_⟩;simp only [iW,hq,zac];exact ⟨_,_,rfl,hd,hw,h3⟩
  |false=>
   rw [hq] at hm hc;obtain ⟨j,n',f1,f2,f3,f4,f5⟩:=ih (i+1) h3 hm;refine ⟨j+1,n',by simp only [iU,hc,f1];rw [Nat.add_right_comm,Nat.add_assoc],f2,f3,f4,fun y' w hw=>?_⟩;simp only [iW,hq,zab];exact ⟨_,_,rfl,h1,h2,f5 y' w hw⟩
theorem Sf {kt:TypeId} {g:Bool} {k:Sh} {x:k.ty} {v w:Value} (hk:nL P kt g k=true) (hd:sO Pu I g k x v) (hd2:sO Pu I g k x w):v=w:=by
 have flat:∀ {fs:List Field} {i:Nat} {s:Sh} {x:s.ty} {vs ws:List Value},oP P fs i s=true->cy Pu I s x vs->cy Pu I s x ws->vs=ws:=by
  intro fs
  induction fs with
  |nil=>intro i s x vs ws h;unfold oP at h;cases h
  |cons f r ih=>
   intro i s x vs ws h h1 h2;cases r with
   |nil=>
    simp only [oP] at h;replace h:=(af h).2;unfold gb at h;split at h<;>first |(unfold cy at h1 h2;rw [h1,h2]) |cases h
   |cons q r=>
    cases s with
    |cons a b=>
     simp only [oP] at h;replace h:=af h;obtain ⟨h,h3⟩:=h;replace h:=(af h).2;unfold cy at h1 h2;obtain ⟨u,w,rfl,ea,eb⟩:=h1;obtain ⟨u',w',rfl,ea',eb'⟩:=h2;rw [ih h3 eb eb']
     congr 1
     unfold gb at h;split at h<;>first |(unfold cy at ea ea';rw [ea,ea']) |cases h
    |_=>cases h
 obtain ⟨h1,h2,h3⟩:=hd;obtain ⟨g1,g2,g3⟩:=hd2;unfold nL at hk;split at hk
 ·replace hk:=af hk;obtain ⟨hk,hf⟩:=hk
  have hg:=(af hk).1;obtain ⟨cs,rfl⟩:=h2 hg;obtain ⟨ds,rfl⟩:=g2 hg;have:=flat hf h1 g1;have e:cs=ds:=Array.ext' this;rw [e]
 ·replace hk:=af hk;obtain ⟨hg,hc⟩:=hk
  have hg':g=false:=by simpa using hg
  rw [h3 hg'] at h1;rw [g3 hg'] at g1;unfold gb at hc;split at hc<;>first |(unfold cy at h1 g1;cases h1;cases g1;rfl) |cases hc
theorem EB {e:TypeId} {ge:Bool} {es:Sh} {z:es.ty} (h:LZ P e ge es=some z):∃ zv,zeroOf P e=some zv/\sO Pu I ge es z zv:=by
 unfold LZ at h;split at h
 ·rename_i zv hz
  replace h:=ae h;obtain ⟨hb,h⟩:=h;replace hb:=af hb;refine ⟨zv,hz,Sh.eg (Γ:=fun _=>none) h (dj hb.2),fun hg=>?_,fun hg=>?_⟩
  ·subst hg
   cases zv<;>first |exact ⟨_,rfl⟩ |(exact absurd hb.1 (by simp))
  ·subst hg
   cases zv<;>first |rfl |(exact absurd hb.1 (by simp))
 ·cases h
theorem mO {ok b:Bool} {t:TV} {v:Value} (h:GR Γ Pu I t v):GR Γ Pu I (bif ok then .jg [t,.bool b] else t) (fR ok v b):=by
 cases ok with
 |true=>exact .jg (.cons h (.cons (.bool b) .nil))
 |false=>exact h
theorem IN (hs:aw P hint sh Γ Pu H I) {t:TypeId} {x k:TV} {x' k':Value} {ok:Bool} (h:Ci P sh H t x k ok K=some r) (hx:GR Γ Pu I x x') (hk:GR Γ Pu I k k'):Good P hint sh K r Γ Pu H I (aq (cU P I t x' k' ok)):=by
 unfold Ci at h;split at h
 ·rename_i kt e id hm
  cases hx with |mp hl hv=>
  rename_i l;split at h
  ·rename_i kt' gk ge ks es xs em hg
   replace h:=ae h;obtain ⟨hkb,h⟩:=h;have hkt:=beq_true hkb;subst hkt;split at h
   ·rename_i kx z hkx hz
    have hd:=Cf hkx hk;obtain ⟨zv,hzv,hzd⟩:=EB (Pu:=Pu) (I:=I) hz;obtain ⟨l',hl',ho⟩:=hs.obj id _ hg;cases hl.symm.trans hl';unfold SJ at hv;rcases ho with ⟨hko,⟨hp,hx0,hem⟩ |⟨b,ents,ck,hp,hro,hne,hgb,hent⟩⟩
    ·rw [hp] at hv;subst hv hx0
     simp only [cU,hm,(kQ hko hd).1 true,if_true,hzv,aq];exact Good.same hs h (mO hzd.gr)
    ·rw [hp] at hv;subst hv
     cases hq:gY ks xs kx with
     |none=>
      have hf:=KR hko hd 0 hent hq;simp only [cU,hm,hgb,(kQ hko hd).1,if_true,hf,hzv,aq];simp only [nV,FJ,hq,Option.getD_none,Option.isSome_none] at h;exact Good.same hs h (mO hzd.gr)
     |some y=>
      obtain ⟨j,n,f1,f2,_⟩:=Gk hko hd 0 hent hq;simp only [cU,hm,hgb,(kQ hko hd).1,if_true,f1,aq];simp only [nV,FJ,hq,Option.getD_some,Option.isSome_some] at h;exact Good.same hs h (mO f2.gr)
   ·cases h
  ·cases h
 ·rename_i kt e hm
  cases hx;split at h
  ·rename_i ks es hks hes
   replace h:=ae h;obtain ⟨hko,h⟩:=h;split at h
   ·rename_i kx ge hkx hge
    split at h
    ·rename_i z hz
     have hd:=Cf hkx hk;obtain ⟨zv,hzv,hzd⟩:=EB (Pu:=Pu) (I:=I) hz;simp only [cU,hm,(kQ hko hd).1 true,if_true,hzv,aq];exact Good.same hs h (mO hzd.gr)
    ·cases h
   ·cases h
  ·cases h
 ·cases h
theorem Tl {k:Sh} {β:Type}:∀ (l:List (k.ty×β)) (x:k.ty) (y:β),iW k l x y≠ []:=by
 intro l x y;cases l with
 |nil=>simp [iW]
 |cons p r=>unfold iW;cases k.Ac x p.1<;>simp
theorem Jp (hs:aw P hint sh Γ Pu H I) {t:TypeId} {m k v:TV} {m' k' v':Value} (h:BR dW P H t m k v K=some r) (hm:GR Γ Pu I m m') (hk:GR Γ Pu I k k') (hv:GR Γ Pu I v v'):Good P hint sh K r Γ Pu H I (aq (eR P I t m' k' v')):=by
 unfold BR at h;split at h
 ·rename_i kt e id hmt
  cases hm with |mp hl hmv=>
  rename_i l;split at h
  ·rename_i cs H1 hpl
   have hone:=A3 hpl;obtain ⟨Pu1,s1,e1,r1⟩:=gB hs hpl (hv.cells hone);have k1:=e1.cJ hs;split at h
   ·rename_i kt' gk ge ks es xs em hg
    replace h:=ae h;obtain ⟨hb,h⟩:=h;replace hb:=af hb;obtain ⟨hkb,hag⟩:=hb;have hkt:=beq_true hkb;subst hkt;split at h
    ·rename_i kx y hkx hy
     replace h:=aE h;obtain ⟨hn,h⟩:=h;have hd:=(Cf hkx hk).mono k1.p k1.i;have hd2:sO Pu1 I ge es y v':=Pz hag (Sh.eg hy r1) (hv.mono k1);have hl1:=e1.g _ _ hl;obtain ⟨l',hl',ho⟩:=s1.obj id _ hg;cases hl1.symm.trans hl';unfold SJ at hmv;rcases ho with ⟨hko,⟨hp,hx0,hem⟩ |⟨b,ents,ck,hp,hro,hne,hgb,hent⟩⟩
     ·rw [hx0,hem] at hn;cases hn
     ·rw [hp] at hmv;subst hmv
      have hnp:¬ Pu1 b:=s1.sep b (.pos hg rfl hl1 hp);have go:∀ (es':List MapEntry) (ck':Nat),np Pu1 I gk ge ks es (iW ks xs kx y) es'->eR P I t (.map (some b)) k' v'=some (.skip (I.put b (.map es' ck')))->Good P hint sh K r Γ Pu H I (aq (eR P I t (.map (some b)) k' v')):=by
       intro es' ck' hE hev;have kk:cH Γ Pu1 I Γ Pu1 (I.put b (.map es' ck')):=⟨fun _ _ h=>h,fun _ h=>h,fun b' hb'=>by rw [IH.ah,if_neg (by rintro rfl;exact hnp hb')]⟩
       obtain ⟨s2,e2⟩:=s1.hX hg rfl hl1 hp (.map kt gk ge ks es (iW ks xs kx y) em) (.map es' ck')
        ⟨hko,.inr ⟨b,es',ck',hp,hro,fun _=>Tl _ _ _,by rw [IH.ah,if_pos rfl],hE.mono kk.p kk.i⟩⟩
       rw [hev];exact ⟨_,_,_,_,_,_,h,rfl,.undef _,s2,Ex.trans hs s1 e1 e2⟩
      have hro':¬ b<dO:=by omega
      cases hq:gY ks xs kx with
      |none=>
       have hf:=KR hko hd 0 hent hq;refine go (ents++ [{ key:=k',val:=v',born:=ck }]) (ck+1) (VJ hd hd2 hent hq) ?_;simp only [eR,hmt,if_neg hro',hgb,(kQ hko hd).1,if_true,hf]
      |some y0=>
       obtain ⟨j,n,f1,f2,f3,f4,f5⟩:=Gk hko hd 0 hent hq;refine go (Cw k' v' ents j) ck (f5 y v' hd2) ?_;have hkk:=Sf hko f4 hd;rw [Nat.zero_add] at f1;simp only [eR,hmt,if_neg hro',hgb,(kQ hko hd).1,if_true,f1,f3,hkk,(kQ hko hd).2.1]
    ·cases h
   ·cases h
  ·cases h
 ·cases h
theorem Gi (hs:aw P hint sh Γ Pu H I) {t:TypeId} {n:Option TV} {n':Option Value} (h:mH P sh H t n K=some r) (hn:eh Γ Pu I n n'):Good P hint sh K r Γ Pu H I (aq (cj P I t n')):=by
 unfold mH at h;split at h
 ·rename_i kt e hm
  split at h
  ·rename_i ks es gk ge _ _ _ _
   replace h:=ae h;obtain ⟨hb,h⟩:=h;replace hb:=af hb;obtain ⟨hb,hko⟩:=hb
   obtain ⟨s1,e1⟩:=hs.new (.map kt gk ge ks es [] false) (.map [] 0) ⟨some (I.n,0),0,0,0⟩ 0 rfl
    ⟨hko,.inr ⟨I.n,[],0,rfl,hs.ro,(fun h=>by cases h),by rw [IH.az,if_pos rfl],rfl⟩⟩
   have hgr:GR (Γ.up H.n ⟨some (I.n,0),0,0,0⟩) Pu (I.new (.map [] 0)) (.mp H.n) (.map (some I.n)):= .mp (l:=⟨some (I.n,0),0,0,0⟩) (by simp [bc.up]) rfl;have hev:cj P I t n'=some (.val (.map (some I.n)) (I.new (.map [] 0))):=by
    have hu:P.underlying t=some (.map kt e):=by
     unfold pJ at hm;split at hm
     ·rename_i hu;cases hm;exact hu
     ·cases hm
    cases n with
    |none=>cases n' with
     |none=>rfl
     |some _=>cases hn
    |some n=>cases n' with
     |none=>cases hn
     |some v=>
      cases n with
      |int k m=>
       have hn':GR Γ Pu I (.int k m) v:=by cases hn;assumption
       cases hn';simp only [cj,hu]
      |_=>cases hb
   rw [hev];exact ⟨_,_,_,_,_,_,h,rfl,hgr,s1,e1⟩
  ·cases h
 ·cases h
end
end Go.Gv
