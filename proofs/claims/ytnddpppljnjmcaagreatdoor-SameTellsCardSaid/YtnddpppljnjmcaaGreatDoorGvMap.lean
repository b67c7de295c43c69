/- The pure evaluator's operations are the ideal one's: maps. -/
import Derived.Test.YtnddpppljnjmcaaGreatDoorGvOpsY
set_option linter.unusedSimpArgs false
set_option linter.unusedVariables false
namespace Go.Gv
open Go Go.Iv
section
variable {β:Type} {P:Program} {hint:Hint} {sh:cr} {Γ Γ1:bb} {Pu Pu1:Nat→Prop} {H H1:GH} {I I1:IH} {K:TV→GH→Option β} {r:β}
theorem Kz {H H1:GH} {t t':TV} (h:qO H t=some (t',H1)):t.one=true:=by
 cases t with
 |agg l=>cases h
 |jI l=>cases h
 |undef=>cases h
 |raw v=>
  unfold qO at h
  split at h
  all_goals first
   |(rename_i hh;cases hh;rfl)
   |(rename_i hh;cases hh;done)
   |(cases h;done)
   |rfl
 |_=>rfl
theorem yl:∀ {l l':List TV} {H H1:GH},gM l H=some (l',H1)→l.all TV.one=true:=by
 intro l
 induction l with
 |nil=>intro l' H H1 _;rfl
 |cons t r ih=>
  intro l' H H1 h
  unfold gM at h
  split at h
  ·rename_i h1
   split at h
   ·rename_i h2
    simp only [List.all_cons,Bool.and_eq_true]
    exact ⟨Kz h1,ih h2⟩
   ·cases h
  ·cases h
theorem Sh.AX:∀ {s:Sh} {x y:s.ty},s.ie x y=true→x=y:=by
 intro s
 induction s with
 |int k=>intro x y h;exact eq_of_beq (α:=Int) h
 |byte=>intro x y h;exact eq_of_beq (α:=UInt8) h
 |bool=>intro x y h;exact eq_of_beq (α:=Bool) h
 |str=>intro x y h;exact eq_of_beq (α:=List UInt8) h
 |cons a b iha ihb=>
  intro x y h
  replace h:=Go.Gv.and_true h
  exact Prod.ext (iha h.1) (ihb h.2)
 |bQ e _=>intro x y h;cases h
theorem tj {t:TypeId} {s:Sh} {x:s.ty} {vs:List Value} (hc:dZ P t s=true) (he:bL Pu I s x vs):
  ∃ v d,vs= [v]∧aM v=true∧P.underlying t=some d∧(∀ fs,d≠ .struct fs)∧(∀ n e,d≠ .array n e)∧(∀ n em,bu P (Instr.checkKey em (n+1) t v)=some ())∧(∀ n,Instr.sameBits n v v=true):=by
 have go:∀ {v:Value} {d:TypeDesc},P.underlying t=some d→(∀ fs,d≠ .struct fs)→(∀ n e,d≠ .array n e)→(∀ m,d≠ .interface m)→∀ n em,bu P (Instr.checkKey em (n+1) t v)=some ():=by
  intro v d hu h1 h2 h3 n em
  unfold Instr.checkKey
  rw [aF _ _ _ (aU hu)]
  cases d<;>first |rfl |exact absurd rfl (h1 _) |exact absurd rfl (h2 _ _) |exact absurd rfl (h3 _)
 unfold dZ at hc
 split at hc
 ·split at hc
  ·rename_i hu
   unfold bL at he;subst he
   exact ⟨_,_,rfl,rfl,hu,by intros;simp,by intros;simp,go hu (by intros;simp) (by intros;simp) (by intros;simp),fun n=>by cases n<;>simp [Instr.sameBits]⟩
  ·cases hc
 ·split at hc
  ·rename_i hu
   unfold bL at he;subst he
   exact ⟨_,_,rfl,rfl,hu,by intros;simp,by intros;simp,go hu (by intros;simp) (by intros;simp) (by intros;simp),fun n=>by cases n<;>simp [Instr.sameBits]⟩
  ·cases hc
 ·split at hc
  ·rename_i hu
   unfold bL at he;subst he
   exact ⟨_,_,rfl,rfl,hu,by intros;simp,by intros;simp,go hu (by intros;simp) (by intros;simp) (by intros;simp),fun n=>by cases n<;>simp [Instr.sameBits]⟩
  ·cases hc
 ·split at hc
  ·rename_i hu
   unfold bL at he;subst he
   exact ⟨_,_,rfl,rfl,hu,by intros;simp,by intros;simp,go hu (by intros;simp) (by intros;simp) (by intros;simp),fun n=>by
    have e:(ba x==ba x)=true:=by
     show ((⟨x⟩:Array UInt8)==⟨x⟩)=true
     simp
    cases n<;>simpa [Instr.sameBits] using e⟩
  ·cases hc
 ·cases hc
theorem I5 {t:TypeId} {s:Sh} (x y:s.ty) (hc:dZ P t s=true):∃ a b,s.cZ x= [a]∧s.cZ y= [b]∧Cc P t a b=some (s.ie x y):=by
 unfold dZ at hc
 split at hc
 ·split at hc
  ·rename_i hu
   exact ⟨_,_,rfl,rfl,by simp [Cc,hu,Sh.ie]⟩
  ·cases hc
 ·split at hc
  ·rename_i hu
   exact ⟨_,_,rfl,rfl,by simp [Cc,hu,Sh.ie]⟩
  ·cases hc
 ·split at hc
  ·rename_i hu
   exact ⟨_,_,rfl,rfl,by simp [Cc,hu,Sh.ie]⟩
  ·cases hc
 ·split at hc
  ·rename_i hu
   exact ⟨_,_,rfl,rfl,by simp [Cc,hu,Sh.ie]⟩
  ·cases hc
 ·cases hc
theorem RH:∀ {fs:List Field} {i:Nat} {s:Sh} (x y:s.ty),jJ P fs i s=true→FR P fs i (s.cZ x) (s.cZ y)=some (s.ie x y):=by
 intro fs
 induction fs with
 |nil=>intro i s x y h;unfold jJ at h;cases h
 |cons f r ih=>
  intro i s x y h
  cases r with
  |nil=>
   simp only [jJ] at h
   replace h:=Go.Gv.and_true h;obtain ⟨h1,h2⟩:=h
   obtain ⟨a,b,e1,e2,e3⟩:=I5 x y h2
   rw [e1,e2]
   simp only [FR,h1,cond_true,e3,Bool.and_true]
  |cons q r=>
   cases s with
   |cons a b=>
    simp only [jJ] at h
    replace h:=Go.Gv.and_true h;obtain ⟨h,h3⟩:=h
    replace h:=Go.Gv.and_true h;obtain ⟨h1,h2⟩:=h
    obtain ⟨u,v,e1,e2,e3⟩:=I5 x.1 y.1 h2
    have e4:=ih x.2 y.2 h3
    simp only [Sh.cZ,e1,e2,List.singleton_append]
    rw [FR,h1,cond_true,e3,e4]
    rfl
   |_=>cases h
theorem EZ {n:Nat} {em:Bool} {cs:Array Value}:∀ {fs:List Field} {i:Nat} {s:Sh} {x:s.ty} {vs:List Value},jJ P fs i s=true→bL Pu I s x vs→cs.toList.drop i=vs→
  bu P (do
   for f in fs do
    if f.name ≠ "_" then Instr.checkKey em (n + 1) f.type (← part f.type cs f.offset)) = some () ∧ vs.all aM = true ∧ (∀ m, (vs.zip vs).all (fun p => Instr.sameBits m p.1 p.2) = true) := by
 intro fs
 induction fs with
 |nil=>intro i s x vs h;unfold jJ at h;cases h
 |cons f r ih=>
  intro i s x vs h he hd
  have key : ∀ {v : Value} {ws : List Value} {s' : Sh} {x' : s'.ty}, (f.name != "_" && Nat.beq f.offset i) = true → dZ P f.type s' = true → bL Pu I s' x' [v] → vs = v :: ws →
    (bu P (do
     for f in r do
      if f.name ≠ "_" then Instr.checkKey em (n + 1) f.type (← part f.type cs f.offset)) = some () ∧ ws.all aM = true ∧ (∀ m, (ws.zip ws).all (fun p => Instr.sameBits m p.1 p.2) = true)) →
    bu P (do
     for f in f::r do
      if f.name ≠ "_" then Instr.checkKey em (n + 1) f.type (← part f.type cs f.offset)) = some () ∧ vs.all aM = true ∧ (∀ m, (vs.zip vs).all (fun p => Instr.sameBits m p.1 p.2) = true) := by
   intro v ws s' x' hn hc hev hvs hr
   replace hn:=Go.Gv.and_true hn
   have hname : f.name ≠ "_" := by simpa using hn.1
   have hoff:f.offset=i:=beq_true hn.2
   obtain ⟨v',d,e0,e1,hu,n1,n2,e3,e4⟩:=tj hc hev
   cases e0
   have hvi:cs[f.offset]? =some v:=by
    rw [hoff,←Array.getElem?_toList,←List.head?_drop,hd,hvs];rfl
   refine ⟨?_,by simp [hvs,e1,hr.2.1],fun m=>by simp [hvs,e4 m];exact fun a b=>by simpa using List.all_eq_true.1 (hr.2.2 m) (a,b)⟩
   simp only [List.forIn_cons,hname,ne_eq,not_false_eq_true,if_true,bind_assoc]
   rw [aF _ _ _ (qj hu n1 n2 hvi),aF _ _ _ (e3 n em)]
   simp only [pure_bind]
   exact hr.1
  cases r with
  |nil=>
   simp only [jJ] at h
   replace h:=Go.Gv.and_true h;obtain ⟨h1,h2⟩:=h
   obtain ⟨v,d,e0,_⟩:=tj h2 he
   subst e0
   exact key h1 h2 he rfl ⟨rfl,rfl,fun _=>rfl⟩
  |cons q r=>
   cases s with
   |cons a b=>
    simp only [jJ] at h
    replace h:=Go.Gv.and_true h;obtain ⟨h,h3⟩:=h
    replace h:=Go.Gv.and_true h;obtain ⟨h1,h2⟩:=h
    unfold bL at he
    obtain ⟨u,w,rfl,ea,eb⟩:=he
    obtain ⟨v,d,e0,_⟩:=tj h2 ea
    subst e0
    refine key h1 h2 ea rfl (ih h3 eb ?_)
    rw [←List.drop_drop,hd];rfl
   |_=>cases h
theorem ei {kt:TypeId} {g:Bool} {k:Sh} {x:k.ty} {v:Value} (hk:gU P kt g k=true) (hd:mT Pu I g k x v):
  (∀ em,jz P em kt v=true)∧Instr.sameBits 10000 v v=true∧∀ {y:k.ty} {w:Value},mT Pu I g k y w→eF P kt v w=some (k.ie x y):=by
 obtain ⟨h1,h2,h3⟩:=hd
 unfold gU at hk
 split at hk
 ·rename_i fs hu
  replace hk:=Go.Gv.and_true hk;obtain ⟨hk,hf⟩:=hk
  replace hk:=Go.Gv.and_true hk;obtain ⟨hg,hst⟩:=hk
  obtain ⟨cs,rfl⟩:=h2 hg
  refine ⟨fun em=>?_,?_,fun {y w} hd2=>?_⟩
  ·obtain ⟨c1,c2,_⟩:=EZ (n:=9998) (em:=em) (cs:=cs) hf h1 rfl
   have hrun:bu P (Instr.checkKey em 10000 kt (.agg cs))=some ():=by
    show bu P (Instr.checkKey em (9999+1) kt (.agg cs))=some ()
    unfold Instr.checkKey
    rw [aF _ _ _ (aU hu)]
    simp only []
    rw [←Array.forIn_toList]
    exact c1
   have c2':cs.toList.all aM=true:=c2
   simp only [jz,hu,c2',hrun,Bool.and_self]
  ·obtain ⟨_,_,c3⟩:=EZ (n:=9998) (em:=true) (cs:=cs) hf h1 rfl
   show Instr.sameBits (9999+1) (.agg cs) (.agg cs)=true
   unfold Instr.sameBits
   simp only [beq_self_eq_true,Bool.true_and]
   exact c3 9999
  ·obtain ⟨g1,g2,g3⟩:=hd2
   obtain ⟨ds,rfl⟩:=g2 hg
   have ha:=h1.cZ (Γ:=fun _=>none)
   have hb:=g1.cZ (Γ:=fun _=>none)
   obtain ⟨k1,_⟩:=Jj (d:=9998) (xs:=cs) (ys:=ds) (RH x y hf) ha hb rfl rfl
   show bu P (Op.equal kt (.agg cs) (.agg ds))=_
   unfold Op.equal
   show bu P (Op.equalIn (9999+1) kt (.agg cs) (.agg ds))=_
   unfold Op.equalIn
   rw [aF _ _ _ (aU hu)]
   simp only []
   have hst':P.stoodInHeld kt=false:=by simpa using hst
   rw [aF _ _ _ (fQ P),hst']
   simp only [Bool.false_eq_true,if_false]
   rw [←Array.forIn_toList]
   exact (ry 9999 cs ds fs.toList).trans k1
 ·replace hk:=Go.Gv.and_true hk;obtain ⟨hg,hc⟩:=hk
  have hg':g=false:=by simpa using hg
  rw [h3 hg'] at h1
  refine ⟨fun em=>?_,?_,fun {y w} hd2=>?_⟩
  ·unfold dZ at hc
   unfold jz
   split at hc<;>(try split at hc)<;>first
    |(cases hc;done)
    |(rename_i hu;unfold bL at h1;cases h1;rw [hu])
  ·obtain ⟨v',_,e0,_,_,_,_,_,e4⟩:=tj hc h1
   cases e0;exact e4 _
  ·obtain ⟨g1,g2,g3⟩:=hd2
   rw [g3 hg'] at g1
   unfold dZ at hc
   split at hc
   ·split at hc
    ·unfold bL at h1 g1;cases h1;cases g1;simp [eF,Sh.ie]
    ·cases hc
   ·split at hc
    ·unfold bL at h1 g1;cases h1;cases g1
     simp only [eF,if_true,Sh.ie]
     rw [←tk]
    ·cases hc
   ·split at hc
    ·unfold bL at h1 g1;cases h1;cases g1;simp [eF,Sh.ie]
    ·cases hc
   ·split at hc
    ·unfold bL at h1 g1;cases h1;cases g1;simp only [eF,Sh.ie];rfl
    ·cases hc
   ·cases hc
theorem MN {g:Bool} {k:Sh} {t:TV} {v:Value} {x:k.ty} (h:(bif g then RN t else t.one)=true) (he:bL Pu I k x v.cells.toList) (hr:GR Γ Pu I t v):mT Pu I g k x v:=by
 cases g with
 |true=>
  cases t with
  |agg cs=>cases hr with |agg hr=>exact ⟨he,fun _=>⟨_,rfl⟩,fun h=>by cases h⟩
  |_=>cases h
 |false=>exact ⟨he,(fun h=>by cases h),fun _=>kX (hr.one h)⟩
theorem oP {g:Bool} {k:Sh} {t:TV} {v:Value} {x:k.ty} (h:Ht g k t=some x) (hr:GR Γ Pu I t v):mT Pu I g k x v:=by
 unfold Ht at h
 replace h:=ad h;obtain ⟨hg,h⟩:=h
 refine MN hg (Sh.eE (Γ:=Γ) h ?_) hr
 cases g with
 |true=>
  cases t with
  |agg cs=>cases hr with |agg hr=>exact hr
  |_=>cases hg
 |false=>
  have h1:t.one=true:=hg
  rw [kX (hr.one h1),TV.E8 h1]
  exact .cons hr .nil
theorem Ji {kt:TypeId} {gk ge:Bool} {k e:Sh} {x:k.ty} {v:Value} (hk:gU P kt gk k=true) (hd:mT Pu I gk k x v):∀ {xs:List (k.ty×e.ty)} {es:List MapEntry} (i:Nat),lr Pu I gk ge k e xs es→cD k xs x=none→er P kt v es i=some none:=by
 intro xs
 induction xs with
 |nil=>intro es i h _;unfold lr at h;subst h;rfl
 |cons p r ih=>
  intro es i h hm
  obtain ⟨n,t,rfl,h1,h2,h3⟩:=h
  have hc:=(ei hk hd).2.2 h1
  unfold cD at hm
  cases hq:k.ie x p.1 with
  |true=>rw [hq] at hm;cases hm
  |false=>
   rw [hq] at hm hc
   simp only [er,hc]
   exact ih (i+1) h3 hm
theorem QZ {gk ge:Bool} {k e:Sh} {x:k.ty} {y:e.ty} {v w:Value} {ck:Nat} (hd:mT Pu I gk k x v) (hw:mT Pu I ge e y w):∀ {xs:List (k.ty×e.ty)} {es:List MapEntry},lr Pu I gk ge k e xs es→cD k xs x=none→
  lr Pu I gk ge k e (cE k xs x y) (es++ [{ key:=v,val:=w,born:=ck }]):=by
 intro xs
 induction xs with
 |nil=>intro es h _;unfold lr at h;subst h;exact ⟨_,_,rfl,hd,hw,rfl⟩
 |cons p r ih=>
  intro es h hm
  obtain ⟨n,t,rfl,h1,h2,h3⟩:=h
  unfold cD at hm
  cases hq:k.ie x p.1 with
  |true=>rw [hq] at hm;cases hm
  |false=>
   rw [hq] at hm
   simp only [cE,hq,cond_false]
   exact ⟨_,_,rfl,h1,h2,ih h3 hm⟩
theorem Fs {kt:TypeId} {gk ge:Bool} {k e:Sh} {x:k.ty} {y:e.ty} {v:Value} (hk:gU P kt gk k=true) (hd:mT Pu I gk k x v):∀ {xs:List (k.ty×e.ty)} {es:List MapEntry} (i:Nat),lr Pu I gk ge k e xs es→cD k xs x=some y→
  ∃ j n,er P kt v es i=some (some (i+j,n.val))∧mT Pu I ge e y n.val∧es[j]? =some n∧mT Pu I gk k x n.key∧∀ (y':e.ty) (w:Value),mT Pu I ge e y' w→lr Pu I gk ge k e (cE k xs x y') (jM v w es j):=by
 intro xs
 induction xs with
 |nil=>intro es i _ h;cases h
 |cons p r ih=>
  intro es i h hm
  obtain ⟨n,t,rfl,h1,h2,h3⟩:=h
  have hc:=(ei hk hd).2.2 h1
  unfold cD at hm
  cases hq:k.ie x p.1 with
  |true=>
   rw [hq] at hm hc
   cases hm
   refine ⟨0,n,by simp only [er,hc];rfl,h2,rfl,by rw [Sh.AX hq];exact h1,fun y' w hw=>?_⟩
   simp only [cE,hq,cond_true]
   exact ⟨_,_,rfl,hd,hw,h3⟩
  |false=>
   rw [hq] at hm hc
   obtain ⟨j,n',f1,f2,f3,f4,f5⟩:=ih (i+1) h3 hm
   refine ⟨j+1,n',by simp only [er,hc,f1];rw [Nat.add_right_comm,Nat.add_assoc],f2,f3,f4,fun y' w hw=>?_⟩
   simp only [cE,hq,cond_false]
   exact ⟨_,_,rfl,h1,h2,f5 y' w hw⟩
theorem EL {kt:TypeId} {g:Bool} {k:Sh} {x:k.ty} {v w:Value} (hk:gU P kt g k=true) (hd:mT Pu I g k x v) (hd2:mT Pu I g k x w):v=w:=by
 have flat:∀ {fs:List Field} {i:Nat} {s:Sh} {x:s.ty} {vs ws:List Value},jJ P fs i s=true→bL Pu I s x vs→bL Pu I s x ws→vs=ws:=by
  intro fs
  induction fs with
  |nil=>intro i s x vs ws h;unfold jJ at h;cases h
  |cons f r ih=>
   intro i s x vs ws h h1 h2
   cases r with
   |nil=>
    simp only [jJ] at h
    replace h:=(Go.Gv.and_true h).2
    unfold dZ at h
    split at h<;>first |(unfold bL at h1 h2;rw [h1,h2]) |cases h
   |cons q r=>
    cases s with
    |cons a b=>
     simp only [jJ] at h
     replace h:=Go.Gv.and_true h;obtain ⟨h,h3⟩:=h
     replace h:=(Go.Gv.and_true h).2
     unfold bL at h1 h2
     obtain ⟨u,w,rfl,ea,eb⟩:=h1
     obtain ⟨u',w',rfl,ea',eb'⟩:=h2
     rw [ih h3 eb eb']
     congr 1
     unfold dZ at h
     split at h<;>first |(unfold bL at ea ea';rw [ea,ea']) |cases h
    |_=>cases h
 obtain ⟨h1,h2,h3⟩:=hd
 obtain ⟨g1,g2,g3⟩:=hd2
 unfold gU at hk
 split at hk
 ·replace hk:=Go.Gv.and_true hk;obtain ⟨hk,hf⟩:=hk
  have hg:=(Go.Gv.and_true hk).1
  obtain ⟨cs,rfl⟩:=h2 hg
  obtain ⟨ds,rfl⟩:=g2 hg
  have:=flat hf h1 g1
  have e:cs=ds:=Array.ext' this
  rw [e]
 ·replace hk:=Go.Gv.and_true hk;obtain ⟨hg,hc⟩:=hk
  have hg':g=false:=by simpa using hg
  rw [h3 hg'] at h1
  rw [g3 hg'] at g1
  unfold dZ at hc
  split at hc<;>first |(unfold bL at h1 g1;cases h1;cases g1;rfl) |cases hc
theorem Cp {e:TypeId} {ge:Bool} {es:Sh} {z:es.ty} (h:IW P e ge es=some z):∃ zv,zeroOf P e=some zv∧mT Pu I ge es z zv:=by
 unfold IW at h
 split at h
 ·rename_i zv hz
  replace h:=ad h;obtain ⟨hb,h⟩:=h
  replace hb:=Go.Gv.and_true hb
  refine ⟨zv,hz,Sh.eE (Γ:=fun _=>none) h (dR hb.2),fun hg=>?_,fun hg=>?_⟩
  ·subst hg
   cases zv<;>first |exact ⟨_,rfl⟩ |(exact absurd hb.1 (by simp))
  ·subst hg
   cases zv<;>first |rfl |(exact absurd hb.1 (by simp))
 ·cases h
theorem kU {ok b:Bool} {t:TV} {v:Value} (h:GR Γ Pu I t v):GR Γ Pu I (bif ok then .jI [t,.bool b] else t) (fK ok v b):=by
 cases ok with
 |true=>exact .jI (.cons h (.cons (.bool b) .nil))
 |false=>exact h
theorem Hx (hs:ar P hint sh Γ Pu H I) {t:TypeId} {x k:TV} {x' k':Value} {ok:Bool} (h:Bj P sh H t x k ok K=some r) (hx:GR Γ Pu I x x') (hk:GR Γ Pu I k k'):Good P hint sh K r Γ Pu H I (al (bH P I t x' k' ok)):=by
 unfold Bj at h
 split at h
 ·rename_i kt e id hm
  cases hx with |mp hl hv=>
  rename_i l
  split at h
  ·rename_i kt' gk ge ks es xs em hg
   replace h:=ad h;obtain ⟨hkb,h⟩:=h
   have hkt:=beq_true hkb
   subst hkt
   split at h
   ·rename_i kx z hkx hz
    have hd:=oP hkx hk
    obtain ⟨zv,hzv,hzd⟩:=Cp (Pu:=Pu) (I:=I) hz
    obtain ⟨l',hl',ho⟩:=hs.obj id _ hg
    cases hl.symm.trans hl'
    unfold Li at hv
    rcases ho with ⟨hko,⟨hp,hx0,hem⟩ |⟨b,ents,ck,hp,hro,hne,hgb,hent⟩⟩
    ·rw [hp] at hv;subst hv hx0
     simp only [bH,hm,(ei hko hd).1 true,if_true,hzv,al]
     exact Good.same hs h (kU hzd.gr)
    ·rw [hp] at hv;subst hv
     cases hq:cD ks xs kx with
     |none=>
      have hf:=Ji hko hd 0 hent hq
      simp only [bH,hm,hgb,(ei hko hd).1,if_true,hf,hzv,al]
      simp only [c8,Ek,hq,Option.getD_none,Option.isSome_none] at h
      exact Good.same hs h (kU hzd.gr)
     |some y=>
      obtain ⟨j,n,f1,f2,_⟩:=Fs hko hd 0 hent hq
      simp only [bH,hm,hgb,(ei hko hd).1,if_true,f1,al]
      simp only [c8,Ek,hq,Option.getD_some,Option.isSome_some] at h
      exact Good.same hs h (kU f2.gr)
   ·cases h
  ·cases h
 ·rename_i kt e hm
  cases hx
  split at h
  ·rename_i ks es hks hes
   replace h:=ad h;obtain ⟨hko,h⟩:=h
   split at h
   ·rename_i kx ge hkx hge
    split at h
    ·rename_i z hz
     have hd:=oP hkx hk
     obtain ⟨zv,hzv,hzd⟩:=Cp (Pu:=Pu) (I:=I) hz
     simp only [bH,hm,(ei hko hd).1 true,if_true,hzv,al]
     exact Good.same hs h (kU hzd.gr)
    ·cases h
   ·cases h
  ·cases h
 ·cases h
theorem NI (k v:Value):∀ (es:List MapEntry) (i:Nat),(jM k v es i).length=es.length:=by
 intro es
 induction es with
 |nil=>intro i;rfl
 |cons a r ih=>intro i;cases i with
  |zero=>rfl
  |succ i=>simp [jM,ih i]
theorem PE {k:Sh} {β:Type}:∀ (l:List (k.ty×β)) (x:k.ty) (y:β),cE k l x y≠ []:=by
 intro l x y
 cases l with
 |nil=>simp [cE]
 |cons p r=>unfold cE;cases k.ie x p.1<;>simp
theorem Hl (hs:ar P hint sh Γ Pu H I) {t:TypeId} {m k v:TV} {m' k' v':Value} (h:Aw dF P H t m k v K=some r) (hm:GR Γ Pu I m m') (hk:GR Γ Pu I k k') (hv:GR Γ Pu I v v'):Good P hint sh K r Γ Pu H I (al (cK P I t m' k' v')):=by
 unfold Aw at h
 split at h
 ·rename_i kt e id hmt
  cases hm with |mp hl hmv=>
  rename_i l
  split at h
  ·rename_i cs H1 hpl
   have hone:=yl hpl
   obtain ⟨Pu1,s1,e1,r1⟩:=iu hs hpl (hv.cells hone)
   have k1:=e1.cQ hs
   split at h
   ·rename_i kt' gk ge ks es xs em hg
    replace h:=ad h;obtain ⟨hb,h⟩:=h
    replace hb:=Go.Gv.and_true hb;obtain ⟨hkb,hag⟩:=hb
    have hkt:=beq_true hkb
    subst hkt
    split at h
    ·rename_i kx y hkx hy
     replace h:=aE h;obtain ⟨hn,h⟩:=h
     have hd:=(oP hkx hk).mono k1.p k1.i
     have hd2:mT Pu1 I ge es y v':=MN hag (Sh.eE hy r1) (hv.mono k1)
     have hl1:=e1.g _ _ hl
     obtain ⟨l',hl',ho⟩:=s1.obj id _ hg
     cases hl1.symm.trans hl'
     unfold Li at hmv
     rcases ho with ⟨hko,⟨hp,hx0,hem⟩ |⟨b,ents,ck,hp,hro,hne,hgb,hent⟩⟩
     ·rw [hx0,hem] at hn;cases hn
     ·rw [hp] at hmv;subst hmv
      have hnp:¬ Pu1 b:=s1.sep b (.pos hg rfl hl1 hp)
      have go:∀ (es':List MapEntry) (ck':Nat),lr Pu1 I gk ge ks es (cE ks xs kx y) es'→cK P I t (.map (some b)) k' v'=some (.skip (I.put b (.map es' ck')))→Good P hint sh K r Γ Pu H I (al (cK P I t (.map (some b)) k' v')):=by
       intro es' ck' hE hev
       have kk:cy Γ Pu1 I Γ Pu1 (I.put b (.map es' ck')):=⟨fun _ _ h=>h,fun _ h=>h,fun b' hb'=>by rw [IH.ah,if_neg (by rintro rfl;exact hnp hb')]⟩
       obtain ⟨s2,e2⟩:=s1.iq hg rfl hl1 hp (.map kt gk ge ks es (cE ks xs kx y) em) (.map es' ck')
        ⟨hko,.inr ⟨b,es',ck',hp,hro,fun _=>PE _ _ _,by rw [IH.ah,if_pos rfl],hE.mono kk.p kk.i⟩⟩
       rw [hev]
       exact ⟨_,_,_,_,_,_,h,rfl,.undef _,s2,Ex.trans hs s1 e1 e2⟩
      have hro':¬ b<dm:=by omega
      cases hq:cD ks xs kx with
      |none=>
       have hf:=Ji hko hd 0 hent hq
       refine go (ents++ [{ key:=k',val:=v',born:=ck }]) (ck+1) (QZ hd hd2 hent hq) ?_
       simp only [cK,hmt,if_neg hro',hgb,(ei hko hd).1,if_true,hf]
      |some y0=>
       obtain ⟨j,n,f1,f2,f3,f4,f5⟩:=Fs hko hd 0 hent hq
       refine go (jM k' v' ents j) ck (f5 y v' hd2) ?_
       have hkk:=EL hko f4 hd
       rw [Nat.zero_add] at f1
       simp only [cK,hmt,if_neg hro',hgb,(ei hko hd).1,if_true,f1,f3,hkk,(ei hko hd).2.1]
    ·cases h
   ·cases h
  ·cases h
 ·cases h
theorem CB (hs:ar P hint sh Γ Pu H I) {t:TypeId} {n:Option TV} {n':Option Value} (h:j9 P sh H t n K=some r) (hn:dv Γ Pu I n n'):Good P hint sh K r Γ Pu H I (al (aZ P I t n')):=by
 unfold j9 at h
 split at h
 ·rename_i kt e hm
  split at h
  ·rename_i ks es gk ge _ _ _ _
   replace h:=ad h;obtain ⟨hb,h⟩:=h
   replace hb:=Go.Gv.and_true hb;obtain ⟨hb,hko⟩:=hb
   obtain ⟨s1,e1⟩:=hs.new (.map kt gk ge ks es [] false) (.map [] 0) ⟨some (I.n,0),0,0,0⟩ 0 rfl
    ⟨hko,.inr ⟨I.n,[],0,rfl,hs.ro,(fun h=>by cases h),by rw [IH.aw,if_pos rfl],rfl⟩⟩
   have hgr:GR (Γ.up H.n ⟨some (I.n,0),0,0,0⟩) Pu (I.new (.map [] 0)) (.mp H.n) (.map (some I.n)):= .mp (l:=⟨some (I.n,0),0,0,0⟩) (by simp [bb.up]) rfl
   have hev:aZ P I t n'=some (.val (.map (some I.n)) (I.new (.map [] 0))):=by
    have hu:P.underlying t=some (.map kt e):=by
     unfold gK at hm
     split at hm
     ·rename_i hu;cases hm;exact hu
     ·cases hm
    cases n with
    |none=>cases n' with
     |none=>rfl
     |some _=>cases hn
    |some n=>cases n' with
     |none=>cases hn
     |some v=>
      cases n with
      |int k m=>
       have hn':GR Γ Pu I (.int k m) v:=by cases hn;assumption
       cases hn'
       simp only [aZ,hu]
      |_=>cases hb
   rw [hev]
   exact ⟨_,_,_,_,_,_,h,rfl,hgr,s1,e1⟩
  ·cases h
 ·cases h
end
end Go.Gv
