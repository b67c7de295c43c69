/- How a text may be written: the program's way and the document's are one. -/
import Derived.Test.YteknbnkjelmfaaaGreatDoorLaw
import Derived.Lib.TrimUEq
import Derived.Lib.ItoaLen
import Derived.Test.YteknbnkjelmfaaaGreatDoorGvSpecX
set_option linter.unusedSimpArgs false
set_option linter.unusedVariables false
namespace Go.Proofs.YteknbnkjelmfaaaGreatDoor
open Go Go.Iv Go.Gv
set_option maxRecDepth 10000
attribute [local irreducible] pt kR print ta dH sP sJ
theorem RW (s:List UInt8):(ba s).data.toList=s:=by unfold ba;simp
theorem UK (s r:List UInt8) (a:UInt8) (p:Nat) (h:s.drop p=a::r):Go.Utf8.decode (ba s) p=TO (pt (a::r)):=by
 rw [←QW,←Go.Lib.decodeL_drop,RW,h]
theorem HA (s:List UInt8):∀ (m:Nat) (r:List UInt8) (n p:Nat) (o xs:List Int),r.length<=m->s.drop p=r->p<=s.length->o.length+r.length<10000000->m+1<=n->d8 m r=some xs->
  ye n o s p=some ((o++xs,()),((s,s.length),())):=by
 intro m
 induction m with
 |zero=>
  intro r n p o xs hm hr hp ho hn hx;obtain ⟨n,rfl⟩:∃ k,n=k+1:=⟨n - 1,by omega⟩;have:r= []:=List.length_eq_zero_iff.1 (by omega);subst this;have hlen0:s.length<=p:=by simpa using hr
  have hlen:s.length=p:=by omega
  cases hx;have e:Nat.blt p s.length=false:=by rw [←Bool.not_eq_true,Nat.blt_eq];omega
  simp only [ye,e,zab,List.append_nil];rw [hlen]
 |succ m ih=>
  intro r n p o xs hm hr hp ho hn hx;obtain ⟨n,rfl⟩:∃ k,n=k+1:=⟨n - 1,by omega⟩;cases r with
  |nil=>
   have hlen0:s.length<=p:=by simpa using hr
   have hlen:s.length=p:=by omega
   cases hx;have e:Nat.blt p s.length=false:=by rw [←Bool.not_eq_true,Nat.blt_eq];omega
   simp only [ye,e,zab,List.append_nil];rw [hlen]
  |cons a r=>
   have hlen:s.length=p+(r.length+1):=by
    have:=congrArg List.length hr;simp at this;omega
   have e:Nat.blt p s.length=true:=by rw [Nat.blt_eq];omega
   simp only [d8] at hx;cases hq:pt (a::r) with
   |none=>rw [hq] at hx;cases hx
   |some q=>
    obtain ⟨c,k⟩:=q;rw [hq] at hx;simp only [Option.map_eq_some_iff] at hx;obtain ⟨ys,hy,rfl⟩:=hx;obtain ⟨_,k2,k3,k4,k5⟩:=Aw hq;simp only [zad] at k3 hm ho;have hd:=UK s r a p hr;rw [hq] at hd;have hw:zap ((((Go.Utf8.decode (ba s) p).1:Nat)):Int)=c:=by
     rw [hd]
     show zap ((c.toNat:Nat):Int)=c
     rw [Int.toNat_of_nonneg k4];exact af (by omega) (by omega)
    have hk:(Go.Utf8.decode (ba s) p).2=k:=by rw [hd];rfl
    have hdr:s.drop (p+k)=(a::r).drop k:=by rw [←zal,hr]
    simp only [ye,e,hw,hk,zac,zad,zah,bQ (show (o.length+(0+1))*9<=1099511627776 by omega)];rw [ih _ n (p+k) (o++ [c]) ys (by simp;omega) hdr (by omega) (by simp;omega) (by omega) hy,List.append_assoc];rfl
theorem Hl (n:Nat) (s:List UInt8) (xs:List Int) (hs:s.length<1000000) (hn:s.length+1<=n) (hx:d8 s.length s=some xs):points n s=some (xs,()):=by
 unfold points;rw [HA s s.length s (n+1) 0 [] xs (zam _) rfl (by omega) (by simp;omega) (by omega) hx];rfl
def tV:Bool->List UInt8->Bool
 |_,[]=>true
 |nl,x::r=>if iX (ub x) then !nl &&(match r with | []=>false |y::_=> !iX (ub y) &&tV false r) else tV false r
def q9:Bool->List UInt8->Bool
 |_,[]=>true
 |nl,x::r=>if iX (ub x) then !nl &&(match r with | []=>false |y::_=>decide (y≠10) &&(!iX (ub y) &&q9 false r)) else q9 (decide (x=10)) r
theorem xM (nl:Bool) (x:UInt8) (r:List UInt8):q9 nl (x::r)=if iX (ub x) then !nl &&(match r with | []=>false |y::_=>decide (y≠10) &&(!iX (ub y) &&q9 false r)) else q9 (decide (x=10)) r:=by cases r<;>rfl
theorem yJ (nl:Bool) (c:Int) (r:List Int):sD nl (c::r)=if iX c then !nl &&(match r with | []=>false |d::_=>decide (d≠10) &&(!iX d &&sD false r)) else sD (decide (c=10)) r:=by cases r<;>rfl
theorem Wg (a b:Nat):(((a:Nat):Int) !=((b:Nat):Int))= !decide (a=b):=by rw [Bool.eq_iff_iff];simp;omega
theorem JM (s:List UInt8) (hs:s.length<1000000000):∀ (r:List UInt8) (i n:Nat),s.drop i=r->r.length+1<=n->i<=s.length->jC n s (len s) (i:Int)=if tV (decide (i=0)) r then some (.inl ((),())) else some (.inr ((false,()),())):=by
 intro r
 induction r with
 |nil=>
  intro i n hr hn hi;obtain ⟨n,rfl⟩:∃ k,n=k+1:=⟨n - 1,by simp at hn;omega⟩;have hlen:s.length<=i:=by simpa using hr
  simp only [jC,aR (show len s<=(i:Int) by unfold len;omega),zab];rfl
 |cons x r ih=>
  intro i n hr hn hi;obtain ⟨n,rfl⟩:∃ k,n=k+1:=⟨n - 1,by simp at hn;omega⟩;simp only [zad] at hn;have hlen:s.length=i+r.length+1:=by
   have:=congrArg List.length hr;simp at this;omega
  have e0:(Int.toNat (i:Int))=i:=rfl;have e0':(Int.toNat ((i+1:Nat):Int))=i+1:=rfl;have hx:s[i]? =some x:=by have:=aH hr 0;simpa using this
  have hx1:s[i+1]? =r[0]? :=by have:=aH hr 1;simpa using this
  have w:zap ((i:Int)+1)=((i+1:Nat):Int):=by rw [af]<;>omega
  have hd:s.drop (i+1)=r:=by rw [←zal,hr];rfl
  have IH:=ih (i+1) n hd (by omega) (by omega);rw [show decide (i+1=0)=false by simp] at IH;have hi0:aX (i:Int) (len s)=true:=aB (by unfold len;omega);have hi1:au (0:Int) (i:Int)=true:=ao (by omega);have hi2:au (0:Int) ((i+1:Nat):Int)=true:=ao (by omega);cases hb:iX (ub x) with
  |false=>
   have e:tV (decide (i=0)) (x::r)=tV false r:=by simp only [tV,hb];simp
   rw [e];simp only [jC,hi0,hi1,zac,zab,e0,hx,zaa,dK,dT,hb,w,IH]
  |true=>
   cases i with
   |zero=>
    have e5:(((0:Nat):Int)==0)=true:=rfl;have e:tV (decide ((0:Nat)=0)) (x::r)=false:=by simp only [tV,hb];rfl
    rw [e];simp only [jC,hi0,hi1,zac,e0,hx,zaa,dK,dT,hb,e5];rfl
   |succ j=>
    have e5:(((j+1:Nat):Int)==0)=false:=by simp;omega
    cases r with
    |nil=>
     have e10:(((j+1+1:Nat):Int)==len s)=true:=by unfold len;simp at hlen ⊢;omega
     have e:tV (decide (j+1=0)) [x]=false:=by simp only [tV,hb];simp
     rw [e];simp only [jC,hi0,hi1,zac,zab,e0,hx,zaa,dK,dT,hb,e5,w,e10];rfl
    |cons y r=>
     have e10:(((j+1+1:Nat):Int)==len s)=false:=by unfold len;simp at hlen ⊢;omega
     have hx2:s[j+1+1]? =some y:=hx1;have e:tV (decide (j+1=0)) (x::y::r)=(!iX (ub y) &&tV false (y::r)):=by simp only [tV,hb];simp
     rw [e];simp only [jC,hi0,hi1,hi2,zac,zab,e0,e0',hx,hx2,zaa,dK,dT,hb,e5,w,e10,IH];cases iX (ub y)<;>rfl
theorem ot (n:Nat) (s:List UInt8) (hs:s.length<1000000000) (hn:s.length+1<=n):Am n s=some (tV true s,()):=by
 unfold Am;have:=JM s hs s 0 n rfl hn (by omega);refine (congrArg (fun z=>Option.bind z _) this).trans ?_;rw [show decide ((0:Nat)=0)=true from rfl];cases tV true s<;>rfl
theorem S2:∀ (t:List UInt8) (nl:Bool),(10:UInt8)∉t->q9 nl t=tV nl t:=by
 intro t
 induction t with
 |nil=>intro nl _;rfl
 |cons x t ih=>
  intro nl h;simp only [List.mem_cons,not_or] at h;have hx:decide (x=10)=false:=by simp;exact fun e=>h.1 e.symm
  cases t with
  |nil=>simp only [q9,tV]
  |cons y t=>
   have hy:decide (y≠10)=true:=by
    simp only [decide_eq_true_eq];intro e;exact h.2 (by rw [e];exact List.mem_cons_self)
   rw [q9,tV,ih false h.2,hx,ih false h.2];simp only [hy,zak]
theorem S3:∀ (t rest:List UInt8) (nl:Bool),(10:UInt8)∉t->q9 nl (t++10::rest)=(tV nl t &&q9 true rest):=by
 intro t
 induction t with
 |nil=>
  intro rest nl _;have:iX (ub 10)=false:=by decide
  simp only [List.nil_append,q9,this,tV];rfl
 |cons x t ih=>
  intro rest nl h;simp only [List.mem_cons,not_or] at h;have hx:decide (x=10)=false:=by simp;exact fun e=>h.1 e.symm
  cases t with
  |nil=>
   have hb:iX (ub 10)=false:=by decide
   simp only [List.cons_append,List.nil_append,q9,tV,hb,hx];cases iX (ub x)<;>simp
  |cons y t=>
   have hy:decide (y≠10)=true:=by
    simp only [decide_eq_true_eq];intro e;exact h.2 (by rw [e];exact List.mem_cons_self)
   have IH:=ih rest false h.2;rw [List.cons_append] at IH;rw [List.cons_append,List.cons_append,q9,tV,hx,IH];simp only [hy,zak];cases iX (ub x)<;>simp [Bool.and_assoc]
theorem Qa (c:UInt8):∀ (s:List UInt8) (k i:Nat),uB c s k=some i->∃ t rest,s=t++c::rest/\k+t.length=i/\c∉t:=by
 intro s
 induction s with
 |nil=>intro k i h;cases h
 |cons x s ih=>
  intro k i h;simp only [uB] at h;split at h
  ·cases h
   rename_i hx;exact ⟨[],s,by rw [eq_of_beq hx];rfl,by simp,by simp⟩
  ·obtain ⟨t,rest,h1,h2,h3⟩:=ih (k+1) i h
   rename_i hx;refine ⟨x::t,rest,by rw [h1];rfl,by simp;omega,?_⟩;simp only [List.mem_cons,not_or];exact ⟨fun e=>hx (by rw [e];simp),h3⟩
theorem Rg (c:UInt8):∀ (s:List UInt8) (k:Nat),uB c s k=none->c∉s:=by
 intro s
 induction s with
 |nil=>intro k _;simp
 |cons x s ih=>
  intro k h;simp only [uB] at h;split at h
  ·cases h
  ·rename_i hx
   simp only [List.mem_cons,not_or];exact ⟨fun e=>hx (by rw [e];simp),ih (k+1) h⟩
theorem F7:∀ (m:Nat) (s:List UInt8) (n:Nat),s.length<=m->s.length<1000000000->2*m+3<=n->
  ∃ y,og n false s ([10]:List UInt8) 0=some y/\(match y with | .inl y=>q9 true s=tV true y.2.2.1.1/\y.2.2.1.1.length<=s.length | .inr y=>q9 true s=false/\y.2.1.1=false):=by
 intro m
 induction m with
 |zero=>
  intro s n hm hs hn;obtain ⟨n,rfl⟩:∃ k,n=k+1:=⟨n - 1,by omega⟩;have:s= []:=List.length_eq_zero_iff.1 (by omega);subst this;exact ⟨_,rfl,rfl,zam _⟩
 |succ m ih=>
  intro s n hm hs hn;obtain ⟨n,rfl⟩:∃ k,n=k+1:=⟨n - 1,by omega⟩;have e1:((len ([10]:List UInt8))==(0:Int))=false:=rfl;have e2:((len ([10]:List UInt8))==(1:Int))=true:=rfl;have e3:([10]:List UInt8)[0]? =some 10:=rfl;by_cases hs10:s= [10]
  ·subst hs10
   obtain ⟨y,hy,hv⟩:=ih [] n (by simp) (by simp) (by omega);refine ⟨y,?_,?_⟩
   ·have f0:=ot (n+1) [] (by simp) (by simp)
    have e4:((([10]:List UInt8)==([10]:List UInt8)))=true:=rfl;have z1:zap ((0:Int)+0)=0:=rfl;have z2:zap ((0:Int)+len ([10]:List UInt8))=1:=rfl;have z3:(au (0:Int) 0 &&au (0:Int) (len ([10]:List UInt8)))=true:=rfl;have z4:(au (0:Int) 1 &&au (1:Int) (len ([10]:List UInt8)))=true:=rfl;have z5:List.take (Int.toNat 0 - 0) (List.drop 0 ([10]:List UInt8))= []:=rfl;have z6:List.take (List.length ([10]:List UInt8) - Int.toNat 1) (List.drop (Int.toNat 1) ([10]:List UInt8))= []:=rfl;have z7:tV true []=true:=rfl;rw [og];simp only [e1,e4,zac,zab,zaa,z1,z2,z3,z4,z5,z6,f0,z7,zag];exact hy
   ·have e:q9 true [10]=q9 true []:=rfl
    rw [e];cases y with
    |inl y=>exact ⟨hv.1,Nat.le_trans hv.2 (by simp)⟩
    |inr y=>exact hv
  ·have e4:(([10]:List UInt8)==s)=false:=by
    rw [beq_eq_false_iff_ne];exact fun h=>hs10 h.symm
   rw [og];simp only [e1,e2,e3,e4,zac,zab,zaa];cases hq:uB 10 s 0 with
   |none=>
    have e5:qU 10 s= -1:=by unfold qU;rw [hq]
    have hno:=Rg 10 s 0 hq;refine ⟨_,by rw [e5];rfl,?_⟩;exact ⟨S2 s true hno,zam _⟩
   |some i=>
    obtain ⟨t,rest,h1,h2,h3⟩:=Qa 10 s 0 i hq;have hi:i=t.length:=by omega
    subst hi;have e5:qU 10 s=(t.length:Int):=by unfold qU;rw [hq]
    have hl:s.length=t.length+rest.length+1:=by rw [h1];simp;omega
    have w1:zap ((t.length:Int)+0)=(t.length:Int):=by rw [Int.add_zero];exact af (by omega) (by omega)
    have w2:zap ((t.length:Int)+len ([10]:List UInt8))=((t.length+1:Nat):Int):=by
     show zap ((t.length:Int)+1)=_
     rw [af]<;>omega
    have c1:(au (0:Int) (t.length:Int) &&au (t.length:Int) (len s))=true:=by
     rw [ao (by omega),ao (by unfold len;omega)];rfl
    have c2:(au (0:Int) ((t.length+1:Nat):Int) &&au ((t.length+1:Nat):Int) (len s))=true:=by
     rw [ao (by omega),ao (by unfold len;omega)];rfl
    have t1:List.take ((t.length:Int).toNat - 0) (List.drop 0 s)=t:=by
     rw [List.drop_zero,h1];simp
    have t2:List.take (s.length - (((t.length+1:Nat):Int)).toNat) (List.drop (((t.length+1:Nat):Int)).toNat s)=rest:=by
     have:(((t.length+1:Nat):Int)).toNat=t.length+1:=rfl;rw [this,WW,h1,←zal];simp
    have f1:=ot (n+1) t (by omega) (by omega);have hil:aX (t.length:Int) 0=false:=aR (by omega);simp only [e5,hil,w1,w2,c1,c2,t1,t2,f1,zac,zab,zaa];have hfy:=S3 t rest true h3;rw [←h1] at hfy;cases hf:tV true t with
    |false=>
     refine ⟨_,rfl,?_⟩;rw [hfy,hf];exact ⟨rfl,rfl⟩
    |true=>
     obtain ⟨y,hy,hv⟩:=ih rest n (by omega) (by omega) (by omega);refine ⟨y,hy,?_⟩;rw [hfy,hf,zak];cases y with
     |inl y=>exact ⟨hv.1,by have:=hv.2;omega⟩
     |inr y=>exact hv
theorem HK (n:Nat) (s:List UInt8) (hs:s.length<1000000) (hn:2*s.length+3<=n):DN n s=some (q9 true s,()):=by
 unfold DN;obtain ⟨y,hy,hv⟩:=F7 s.length s n (zam _) (by omega) hn;refine (congrArg (fun z=>Option.bind z _) hy).trans ?_;cases y with
 |inl y=>
  obtain ⟨h1,h2⟩:=hv;have:=ot n y.2.2.1.1 (by omega) (by omega);simp only [zaa];rw [this,h1];cases tV true y.2.2.1.1<;>rfl
 |inr y=>
  rw [hv.1];simp only [zaa];rw [hv.2]
theorem Kt {a:UInt8} {r:List UInt8} {c:Int} {k:Nat} (h:pt (a::r)=some (c,k)) (hc:128<=c):∀ x∈(a::r).take k,128<=ub x:=by
 have ha:=iz a;have hp:=pt.eq_def (a::r);dsimp only at hp;rw [hp] at h;split at h
 ·cases h;omega
 split at h
 ·cases h
 split at h
 ·split at h
  ·split at h
   ·rename_i hb
    cases h;intro x hx;simp at hx;rcases hx with rfl |rfl
    ·omega
    ·exact hb.1
   ·cases h
  ·cases h
 split at h
 ·split at h
  ·split at h
   ·rename_i hb
    cases h;intro x hx;simp at hx;rcases hx with rfl |rfl |rfl
    ·omega
    ·exact hb.1.1
    ·exact hb.2.1.1
   ·cases h
  ·cases h
 split at h
 ·split at h
  ·split at h
   ·rename_i hb
    cases h;intro x hx;simp at hx;rcases hx with rfl |rfl |rfl |rfl
    ·omega
    ·exact hb.1.1
    ·exact hb.2.1.1
    ·exact hb.2.2.1.1
   ·cases h
  ·cases h
 ·cases h
theorem vl {c:Int} (h:128<=c):iX c=false:=by
 unfold iX;rw [decide_eq_false_iff_not];omega
theorem SQ:∀ (u v:List UInt8) (nl:Bool),(∀ x∈u,128<=ub x)->u≠ []->q9 nl (u++v)=q9 false v:=by
 intro u
 induction u with
 |nil=>intro v nl _ h;exact absurd rfl h
 |cons x u ih=>
  intro v nl h _;have hx:=h x List.mem_cons_self;have h10:decide (x=10)=false:=by
   simp only [decide_eq_false_iff_not];intro e;subst e;revert hx;decide
  have e:q9 nl ((x::u)++v)=q9 false (u++v):=by
   rw [List.cons_append,xM,vl hx,h10];simp
  rw [e];cases u with
  |nil=>rfl
  |cons y u=>exact ih v false (fun z hz=>h z (zao _ hz)) (by simp)
theorem Wu (x:UInt8):decide (ub x=10)=decide (x=10):=by
 rw [decide_eq_decide];constructor
 ·intro h
  have:ub x=(x.toNat:Int):=rfl;exact UInt8.toNat_inj.1 (by show x.toNat=10;omega)
 ·intro h;subst h;rfl
theorem Wf:∀ (m:Nat) (l:List UInt8) (xs:List Int) (nl:Bool),l.length<=m->d8 m l=some xs->q9 nl l=sD nl xs:=by
 intro m
 induction m with
 |zero=>
  intro l xs nl hm hx;have:l= []:=List.length_eq_zero_iff.1 (by omega);subst this;cases hx;rfl
 |succ m ih=>
  intro l xs nl hm hx;cases l with
  |nil=>cases hx;rfl
  |cons a r=>
   simp only [d8] at hx;cases hq:pt (a::r) with
   |none=>rw [hq] at hx;cases hx
   |some q=>
    obtain ⟨c,k⟩:=q;rw [hq] at hx;simp only [Option.map_eq_some_iff] at hx;obtain ⟨ys,hy,rfl⟩:=hx;obtain ⟨_,k2,k3,k4,k5⟩:=Aw hq;simp only [zad] at k3 hm;have IH:=fun b=>ih ((a::r).drop k) ys b (by simp;omega) hy
    by_cases hc:c<128
    ·obtain ⟨ha,rfl,rfl⟩:=DV hq (.inl hc)
     simp only [List.drop_succ_cons,List.drop_zero] at IH hy;cases hb:iX (ub a) with
     |false=>
      have e1:q9 nl (a::r)=q9 (decide (a=10)) r:=by rw [xM,hb];simp
      have e2:sD nl (ub a::ys)=sD (decide (ub a=10)) ys:=by rw [yJ,hb];simp
      rw [e1,e2,IH,Wu]
     |true=>
      cases r with
      |nil=>
       have:ys= []:=by cases m<;>(cases hy;rfl)
       subst this;rw [xM,yJ,hb];rfl
      |cons y r=>
       cases m with
       |zero=>simp at hm
       |succ m=>
       have hy':=hy;simp only [d8] at hy';cases hq2:pt (y::r) with
       |none=>rw [hq2] at hy';cases hy'
       |some q2=>
        obtain ⟨d,k'⟩:=q2;rw [hq2] at hy';simp only [Option.map_eq_some_iff] at hy';obtain ⟨zs,hz,rfl⟩:=hy';obtain ⟨_,l2,l3,l4,l5⟩:=Aw hq2;have e1:q9 nl (a::y::r)=(!nl &&(decide (y≠10) &&(!iX (ub y) &&q9 false (y::r)))):=by rw [q9,hb];simp
        have e2:sD nl (ub a::d::zs)=(!nl &&(decide (d≠10) &&(!iX d &&sD false (d::zs)))):=by rw [sD,hb];simp
        rw [e1,e2,IH];by_cases hd:d<128
        ·obtain ⟨_,rfl,_⟩:=DV hq2 (.inl hd)
         have:decide (y≠10)=decide (ub y≠10):=by
          have:=Wu y;rw [decide_eq_decide] at this ⊢;exact not_congr this.symm
         rw [this]
        ·have h1:=Kt hq2 (by omega) y (by
          cases k' with
          |zero=>omega
          |succ k'=>simp)
         rw [vl h1,vl (show 128<=d by omega)];have a1:decide (y≠10)=true:=by
          rw [decide_eq_true_eq];intro e;subst e;revert h1;decide
         have a2:decide (d≠10)=true:=by
          rw [decide_eq_true_eq];omega
         rw [a1,a2]
    ·have hh:=Kt hq (by omega)
     have e2:sD nl (c::ys)=sD false ys:=by
      rw [yJ,vl (show 128<=c by omega)];have:decide (c=10)=false:=by rw [decide_eq_false_iff_not];omega
      rw [this];simp
     rw [e2,←IH];have:=SQ ((a::r).take k) ((a::r).drop k) nl hh (by
      cases k with
      |zero=>omega
      |succ k=>simp)
     rw [List.take_append_drop] at this;exact this
def FU:List UInt8:= [45,45,45]
def D7:List UInt8:= [46,46,46]
def qg (st:Int) (s:List UInt8) (xs:List Int) (flow:Bool):Bool:=
 if st=1 then T8 true xs &&(decide (Ig xs (lp true false xs)=xs.length) &&(K9 xs &&(!V.pre FU s && !V.pre D7 s)))
 else if st=2 then K9 xs
 else if st=3 then true
 else if st=4 then Nn xs &&(!flow &&decide (0<xs.length))
 else if st=5 then (Nn xs &&(!flow &&decide (0<xs.length))) &&sD true xs
 else false
theorem Dc (n:Nat) (s:List UInt8) (xs:List Int) (hx:xs.length<1000000000) (hn:xs.length+30<=n):
  vp n s xs=some (T8 true xs &&(decide (Ig xs (lp true false xs)=xs.length) &&(K9 xs &&(!V.pre FU s && !V.pre D7 s))),()):=by
 unfold vp;have h1:=FN (n+3) xs true (by omega) hx;have h2:=Nv n xs true hx hn;have h3:=tU (n+6) xs hx (by omega);have h4:=V.fj (n+7) s FU;have h5:=V.fj (n+7) s D7;have e:((((Ig xs (lp true false xs):Nat):Int)) !=len xs)= !decide (Ig xs (lp true false xs)=xs.length):=Wg _ _;unfold FU at h4;unfold D7 at h5;simp only [h1,h2,h3,h4,h5,e,zaa,FU,D7];cases T8 true xs<;>cases decide (Ig xs (lp true false xs)=xs.length)<;>cases K9 xs<;>simp only [zag,Bool.not_false,zac,zab,zak,Bool.false_and]
 cases V.pre [45,45,45] s<;>simp
theorem QK (n:Nat) (st:Int) (s:List UInt8) (xs:List Int) (flow:Bool) (hs:s.length<1000000) (hn:2*s.length+40<=n) (hx:d8 s.length s=some xs):may n st s flow=some (qg st s xs flow,()):=by
 have hl:=DJ _ s xs hx;have hv:Go.Lib.validD s=true:=by rw [Ax s.length s (zam _),hx];rfl
 have hb:Nat.ble s.length 9223372036854775807=true:=Nat.ble_eq_true_of_le (by omega);unfold may qg;simp only [hb,hv,zag,zac,zab,Hl (n+8) s xs hs (by omega) hx,zaa,Dc n s xs (by omega) (by omega),tU (n+7) xs (by omega) (by omega),Cw (n+7) xs flow (by omega) (by omega),HK (n+4) s hs (by omega),Wf s.length s xs true (zam _) hx,kp];by_cases h1:st=1
 ·simp only [h1,decide_true,zac,if_true]
 by_cases h2:st=2
 ·simp only [h2,decide_true,decide_false,zac,zab,if_true];rfl
 by_cases h3:st=3
 ·simp only [h3,decide_true,decide_false,zac,zab,if_true];rfl
 by_cases h4:st=4
 ·simp only [h4,decide_true,decide_false,zac,zab,if_true];rfl
 by_cases h5:st=5
 ·simp only [h1,h2,h3,h4,h5,decide_true,decide_false,zac,zab,if_true,if_false]
  simp only [show ((5:Int)=1)=False by simp,show ((5:Int)=2)=False by simp,show ((5:Int)=3)=False by simp,show ((5:Int)=4)=False by simp,decide_false,zab,if_false];cases (Nn xs &&(!flow &&decide (0<xs.length)))<;>simp
 ·simp only [h1,h2,h3,h4,h5,decide_false,zab,if_false]
theorem MK (n:Nat) (st:Int) (s:List UInt8) (xs:List Int) (flow:Bool) (hs:s.length<1000000) (hn:2*s.length+40<=n) (hx:d8 s.length s=some xs):Sl n st s flow=some (qg st s xs flow,()):=by
 have hl:=DJ _ s xs hx;have ht:tN (n+3) s=some (xs,(true,())):=by rw [ou (n+3) s (by omega) (by omega),hx]
 have h1:=vD (n+1) xs true (by omega) (by omega);have h2:=vR n xs true (by omega) (by omega);have h3:=Di (n+5) xs (by omega) (by omega);have h4:=V.gT (n+6) s FU;have h5:=V.gT (n+6) s D7;have h6:=fun t=>Nh xs t (by omega) xs 0 (n+6) rfl (by omega) (by omega)
 rw [show ((0:Nat):Int)=0 from rfl] at h6;have h7:=xD (n+5) xs (by omega) (by omega);unfold FU at h4;unfold D7 at h5;have e:((((Ig xs (lp true false xs):Nat):Int)) !=len xs)= !decide (Ig xs (lp true false xs)=xs.length):=Wg _ _;have e2:(bif flow then some true else some (s==([]:List UInt8)):Option Bool)=some (!(!flow &&decide (0<xs.length))):=by
  have:(s==([]:List UInt8))= !decide (0<xs.length):=by
   cases s with
   |nil=>cases hx;rfl
   |cons a r=>
    simp only [zad,d8] at hx;cases hq:pt (a::r) with
    |none=>rw [hq] at hx;cases hx
    |some q=>
     rw [hq] at hx;simp only [Option.map_eq_some_iff] at hx;obtain ⟨ys,_,rfl⟩:=hx;rfl
  rw [this];cases flow<;>simp
 unfold Sl qg;simp only [ht,zag,zab,zaa,h1,h2,h3,h4,h5,h6,h7,e,e2,kp];by_cases g1:st=1
 ·simp only [g1,decide_true,zac,if_true,FU,D7]
  cases T8 true xs<;>cases decide (Ig xs (lp true false xs)=xs.length)<;>cases V.pre [45,45,45] s<;>cases V.pre [46,46,46] s<;>simp
 by_cases g2:st=2
 ·subst g2;rfl
 by_cases g3:st=3
 ·subst g3;rfl
 by_cases g4:st=4
 ·subst g4
  simp only [show ((4:Int)=1)=False by simp,show ((4:Int)=2)=False by simp,show ((4:Int)=3)=False by simp,decide_false,decide_true,zac,zab,if_false,if_true];cases (!flow &&decide (0<xs.length))<;>cases Nn xs<;>rfl
 by_cases g5:st=5
 ·subst g5
  simp only [show ((5:Int)=1)=False by simp,show ((5:Int)=2)=False by simp,show ((5:Int)=3)=False by simp,show ((5:Int)=4)=False by simp,decide_false,decide_true,zac,zab,if_false,if_true];cases (!flow &&decide (0<xs.length))<;>cases Nn xs<;>simp [h7]
 ·simp only [g1,g2,g3,g4,g5,decide_false,zab,if_false]
theorem LG {st:Int} {s:List UInt8} {xs:List Int} {a b:Bool} (h:qg st s xs a=true) (hab:b=true->a=true):qg st s xs b=true:=by
 cases b with
 |true=>have:=hab rfl;subst this;exact h
 |false=>
  cases a with
  |false=>exact h
  |true=>
   unfold qg at h ⊢;split at h
   ·rename_i h1;rw [if_pos h1];exact h
   rename_i h1;split at h
   ·rename_i h2;rw [if_neg h1,if_pos h2];exact h
   rename_i h2;split at h
   ·rename_i h3;rw [if_neg h1,if_neg h2,if_pos h3]
   split at h
   ·simp at h
   split at h
   ·simp at h
   ·cases h
theorem xC (s:List UInt8) (xs:List Int) (a:Bool):qg 3 s xs a=true:=rfl
theorem xj {st:Int} {s:List UInt8} {xs:List Int} {a:Bool} (h:qg st s xs a=true):1<=st/\st<=5/\(st=1->xs≠ []):=by
 unfold qg at h;split at h
 ·refine ⟨by omega,by omega,fun _ e=>?_⟩
  subst e;cases h
 split at h
 ·exact ⟨by omega,by omega,by omega⟩
 split at h
 ·exact ⟨by omega,by omega,by omega⟩
 split at h
 ·exact ⟨by omega,by omega,by omega⟩
 split at h
 ·exact ⟨by omega,by omega,by omega⟩
 ·cases h
theorem IT (s:List UInt8) (l:List Int) (hl:l.length<1000000000):∀ (r:List Int) (i n:Nat),l.drop i=r->(∀ c∈r,PZ c true=true)->r.length+20<=n->i<=l.length->lb n s l true (i:Int)=some ((s,(true,())),()):=by
 intro r
 induction r with
 |nil=>
  intro i n hr _ hn hi;obtain ⟨n,rfl⟩:∃ k,n=k+1:=⟨n - 1,by simp at hn;omega⟩;have hlen:l.length<=i:=by simpa using hr
  simp only [lb,aR (show len l<=(i:Int) by unfold len;omega),zab]
 |cons c r ih=>
  intro i n hr hc hn hi;obtain ⟨n,rfl⟩:∃ k,n=k+1:=⟨n - 1,by simp at hn;omega⟩;simp only [zad] at hn;have hlen:l.length=i+r.length+1:=by
   have:=congrArg List.length hr;simp at this;omega
  have e0:(Int.toNat (i:Int))=i:=rfl;have hx:l[i]? =some c:=by have:=aH hr 0;simpa using this
  have w:zap ((i:Int)+1)=((i+1:Nat):Int):=by rw [af]<;>omega
  have hd:l.drop (i+1)=r:=by rw [←zal,hr];rfl
  have h:=hc c List.mem_cons_self;unfold PZ at h;simp only [zae,zak,Bool.not_eq_true',decide_eq_true_eq] at h;obtain ⟨h1,h2,h3,h4,h5,h6⟩:=h;have n3:(c !=10)=true:=by simp [h3]
  have n4:(c !=13)=true:=by simp [h4]
  have n5:(c !=65279)=true:=by simp [h5]
  simp only [lb,aB (show (i:Int)<len l by unfold len;omega),ao (show (0:Int)<=i by omega),zac,e0,hx,zaa,iU,Q3,h1,h2,Bool.not_false,n3,n4,n5,Ip (n+1) c (by omega),h6,w];exact ih (i+1) n hd (fun x hx=>hc x (zao _ hx)) (by omega) (by omega)
theorem RS:∀ (u:Nat),∀ x∈Go.Lib.decDigits u,48<=ub x/\ub x<=57:=by
 intro u
 induction u using Nat.strongRecOn with
 |ind u ih=>
  intro x hx;have one:∀ k:Nat,k<10->48<=ub (UInt8.ofNat (48+k))/\ub (UInt8.ofNat (48+k))<=57:=by decide
  rw [Go.Lib.decDigits] at hx;split at hx
  ·rename_i h
   rw [List.mem_singleton.1 hx];exact one u h
  ·rename_i h
   rcases List.mem_append.1 hx with hx |hx
   ·exact ih (u / 10) (by omega) x hx
   ·rw [List.mem_singleton.1 hx]
    exact one _ (by omega)
theorem Uu {c:Int} (h:c=97∨(48<=c/\c<=57)):PZ c true=true:=by
 have h2:c=97∨c=48∨c=49∨c=50∨c=51∨c=52∨c=53∨c=54∨c=55∨c=56∨c=57:=by omega
 rcases h2 with rfl |rfl |rfl |rfl |rfl |rfl |rfl |rfl |rfl |rfl |rfl<;>decide
def D5 (k:Nat):List UInt8:= [97]++Go.Lib.itoa (k:Int)
theorem Sv (k:Nat):∀ x∈D5 k,ub x=97∨(48<=ub x/\ub x<=57):=by
 intro x hx;unfold D5 at hx;rw [Go.Lib.itoa_nonneg] at hx;rcases List.mem_append.1 hx with h |h
 ·rw [List.mem_singleton.1 h];exact .inl rfl
 ·exact .inr (RS k x h)
theorem KH {k:Nat} (h:k<=1000000):(D5 k).length<=22:=by
 have:=Go.Lib.itoa_length_le (k:Int) (by omega) (by omega);unfold D5;simp;omega
theorem FJ (n k:Nat) (hk:k<=1000000) (hn:100<=n):DD n (D5 k)=some (true,()):=by
 have hm:=Sv k;have hl:=KH hk;generalize D5 k=s at hm hl;have hx:d8 s.length s=some (s.map ub):=Hh s.length s (zam _) fun x hx=>by have:=hm x hx;omega
 have ht:tN n s=some (s.map ub,(true,())):=by rw [ou n s (by omega) (by omega),hx]
 have hL:=IT s (s.map ub) (by simp;omega) (s.map ub) 0 n rfl (fun c hc=>by
  obtain ⟨x,hx,rfl⟩:=List.mem_map.1 hc;exact Uu (hm x hx)) (by simp;omega) (by omega)
 rw [show ((0:Nat):Int)=0 from rfl] at hL;unfold DD;rw [ht];simp only [zaa];rw [hL];simp only [zaa,zac,ao (show len s<=200 by unfold len;omega)]
theorem Ii (s:List UInt8) (hs:s.length<1000000000):∀ (r:List UInt8) (i n:Nat),s.drop i=r->r.length+1<=n->i<=s.length->Ap n s (i:Int)=if r.all (fun x=>gw (ub x)) then some (.inl ((s,()),())) else some (.inr ((false,()),())):=by
 intro r
 induction r with
 |nil=>
  intro i n hr hn hi;obtain ⟨n,rfl⟩:∃ k,n=k+1:=⟨n - 1,by simp at hn;omega⟩;have hlen:s.length<=i:=by simpa using hr
  simp only [Ap,aR (show len s<=(i:Int) by unfold len;omega),zab];rfl
 |cons x r ih=>
  intro i n hr hn hi;obtain ⟨n,rfl⟩:∃ k,n=k+1:=⟨n - 1,by simp at hn;omega⟩;simp only [zad] at hn;have hlen:s.length=i+r.length+1:=by
   have:=congrArg List.length hr;simp at this;omega
  have e0:(Int.toNat (i:Int))=i:=rfl;have hx:s[i]? =some x:=by have:=aH hr 0;simpa using this
  have w:zap ((i:Int)+1)=((i+1:Nat):Int):=by rw [af]<;>omega
  have hd:s.drop (i+1)=r:=by rw [←zal,hr];rfl
  rw [show List.all (x::r) (fun x=>gw (ub x))=(gw (ub x) &&r.all (fun x=>gw (ub x))) from rfl];simp only [Ap,aB (show (i:Int)<len s by unfold len;omega),ao (show (0:Int)<=i by omega),zac,e0,hx,zaa,dK,w,wN,ih (i+1) n hd (by omega) (by omega)];cases gw (ub x)<;>rfl
def ya (s:List UInt8):Bool:=s.all (fun x=>gw (ub x)) && !(s== [])
theorem tP (n:Nat) (s:List UInt8) (hs:s.length<1000000000) (hn:s.length+1<=n):rI n s=some (ya s,()):=by
 unfold rI ya;have:=Ii s hs s 0 n rfl hn (by omega);refine (congrArg (fun z=>Option.bind z _) this).trans ?_;cases s.all (fun x=>gw (ub x))<;>rfl
theorem Gt (n:Nat) (tag:List UInt8) (ht:tag.length<=10000) (hn:tag.length+60<=n) (hv:ft tag=true):∃ t,wD n tag=some (t,(true,())):=by
 have hR:=Es n tag (by omega) hn;rw [hv] at hR;have b1:=V.gT (n+4) tag ([116,97,103,58,121,97,109,108,46,111,114,103,44,50,48,48,50,58]:List UInt8);have b2:=V.gT (n+4) tag ([33]:List UInt8);have r1:∀ k,room (k+(List.take (tag.length - 18) (List.drop 18 tag)).length)=room (k+(List.take (tag.length - 18) (List.drop 18 tag)).length):=fun _=>rfl
 have w1:=tP (n+3) (List.take (tag.length - 18) (List.drop 18 tag)) (by simp;omega) (by simp;omega);have w2:=tP (n+3) (List.take (tag.length - 1) (List.drop 1 tag)) (by simp;omega) (by simp;omega);have m1:room (List.length ([33,33]:List UInt8)+(List.take (tag.length - 18) (List.drop 18 tag)).length)=true:=bQ (by simp;omega);have m2:room (List.length ([60]:List UInt8)+tag.length)=true:=bQ (by simp;omega);unfold wD;rw [b1];simp only [zaa,b2,w1,w2,m1,m2,hR,zac];have c1:V.pre ([116,97,103,58,121,97,109,108,46,111,114,103,44,50,48,48,50,58]:List UInt8) tag=true->au (18:Int) (len tag)=true:=fun h=>ao (by have:=V.mB _ _ h;simp at this;unfold len;omega)
 have c2:V.pre ([33]:List UInt8) tag=true->au (1:Int) (len tag)=true:=fun h=>ao (by have:=V.mB _ _ h;simp at this;unfold len;omega)
 cases h1:V.pre ([116,97,103,58,121,97,109,108,46,111,114,103,44,50,48,48,50,58]:List UInt8) tag with
 |true=>
  simp only [c1 h1,zac];cases ya (List.take (tag.length - 18) (List.drop 18 tag)) with
  |true=>exact ⟨_,rfl⟩
  |false=>
   cases h2:V.pre ([33]:List UInt8) tag with
   |true=>
    simp only [c2 h2,zac,zab];cases ya (List.take (tag.length - 1) (List.drop 1 tag)) with
    |true=>exact ⟨_,rfl⟩
    |false=>exact ⟨_,rfl⟩
   |false=>exact ⟨_,rfl⟩
 |false=>
  cases h2:V.pre ([33]:List UInt8) tag with
  |true=>
   simp only [c2 h2,zac,zab];cases ya (List.take (tag.length - 1) (List.drop 1 tag)) with
   |true=>exact ⟨_,rfl⟩
   |false=>exact ⟨_,rfl⟩
  |false=>exact ⟨_,rfl⟩
end Go.Proofs.YteknbnkjelmfaaaGreatDoor
namespace Go.Proofs.YteknbnkjelmfaaaGreatDoor
open Go Go.Iv Go.Gv
set_option maxRecDepth 100000
noncomputable def Jk (_n:Nat) (x:(Int×(List UInt8×(List UInt8×(List UInt8×(Int×Bool)))))):Option (Bool×Unit):=
 Option.bind (bif (x.1==7) then
  some true
 else
 bif (x.1==3) then
  some true
 else
 some (x.1==5)) fun b1=>
 Option.bind (bif (x.1==1) then
  some true
 else
 bif (x.1==2) then
  some true
 else
 bif (x.1==3) then
  some true
 else
 some (x.1==5)) fun b3=>
 Option.bind (bif (!(x.1==7)) then
  bif (!(x.2.1==([]:List UInt8))) then
  some true
  else
  bif (x.2.2.2.2.1 !=0) then
  some true
  else
  bif (x.1==7) then
  bif (aX x.2.2.2.2.1 1) then
   some true
  else
  some (aX 5 x.2.2.2.2.1)
  else
  some false
 else
 bif (x.1==7) then
  bif (aX x.2.2.2.2.1 1) then
  some true
  else
  some (aX 5 x.2.2.2.2.1)
 else
 some false) fun b5=>
 bif b5 then
 some (false,())
 else
 Option.bind (bif (!b1) then
  bif (!(x.2.2.1==([]:List UInt8))) then
  some true
  else
  bif (!b1) then
  bif (x.1 !=8) then
   bif (!(x.2.2.2.1==([]:List UInt8))) then
   some true
   else
   bif (x.1==8) then
   some (x.2.2.2.1==([]:List UInt8))
   else
   some false
  else
  bif (x.1==8) then
   some (x.2.2.2.1==([]:List UInt8))
  else
  some false
  else
  bif (x.1==8) then
  some (x.2.2.2.1==([]:List UInt8))
  else
  some false
 else
 bif (!b1) then
  bif (x.1 !=8) then
  bif (!(x.2.2.2.1==([]:List UInt8))) then
   some true
  else
  bif (x.1==8) then
   some (x.2.2.2.1==([]:List UInt8))
  else
  some false
  else
  bif (x.1==8) then
  some (x.2.2.2.1==([]:List UInt8))
  else
  some false
 else
 bif (x.1==8) then
  some (x.2.2.2.1==([]:List UInt8))
 else
 some false) fun b7=>
 bif b7 then
 some (false,())
 else
 Option.bind (bif b3 then
  some true
 else
 some (!x.2.2.2.2.2)) fun b9=>
 some (b9,())
noncomputable def NY:aZ:=⟨36,[(true,sE)],[(false,.bool)],0,fun n x=>Jk n x.1⟩
theorem UH (n:Nat):az Tryz.prog hint aI NY n:=
 az.of (hk:=fun β=>(aq.mk [] []).hk β) (sh:=aI) (fun m _=>ab.aC ab.nil m) (fun x=>by kernel_rfl)
noncomputable def qw:Tm:=⟨[],[],64,64,1000⟩
noncomputable def yG:Tm:=⟨[(2,.one (.bool))],[],64,64,1000⟩
noncomputable def JY:Tm:=⟨[(0,.one (.aT sE)),(3,.one (.all 64 3 (.int .i64) .any)),(4,.one (.all 65 4 .bool .any)),(5,.one (.int .i64))],[],64,66,1000⟩
noncomputable def du:Nat->qE->(List Int)->(List Bool)->Int->Option ((Unit×Unit)⊕((Bool×Unit)×Unit))
 |0,_,_,_,_=>none
 |n+1,t0,t3,t4,t5=>
 bif (aX t5 (len t0)) then
  bif (au 0 t5) then
  Option.bind (t0[(Int.toNat t5)]?) fun x71=>
  bif (x71.1==4) then
  Option.bind (bif ((au 0 (zap ((len t3) - 1))) &&(aX (zap ((len t3) - 1)) (len t4))) then
   Option.bind (t4[(Int.toNat (zap ((len t3) - 1)))]?) fun x73=>
   bif x73 then
   bif ((au 0 (zap ((len t3) - 1))) &&(aX (zap ((len t3) - 1)) (len t3))) then
   Option.bind (t3[(Int.toNat (zap ((len t3) - 1)))]?) fun x74=>
   some ((Int.tmod x74 2)==1)
   else none
   else
   some false
   else none) fun b75=>
  bif b75 then
   some (.inr ((false,()),()))
  else
  bif ((au 0 (zap ((len t3) - 1))) &&(au (zap ((len t3) - 1)) (len t3))) then
  bif ((au 0 (zap ((len t3) - 1))) &&(au (zap ((len t3) - 1)) (len t4))) then
  du n t0 (List.take ((Int.toNat (zap ((len t3) - 1))) - 0) (List.drop 0 t3)) (List.take ((Int.toNat (zap ((len t3) - 1))) - 0) (List.drop 0 t4)) (zap (t5+1))
  else none
  else none
  else
  bif (x71.1==6) then
  Option.bind (bif ((au 0 (zap ((len t3) - 1))) &&(aX (zap ((len t3) - 1)) (len t4))) then
   Option.bind (t4[(Int.toNat (zap ((len t3) - 1)))]?) fun x77=>
   bif x77 then
   bif ((au 0 (zap ((len t3) - 1))) &&(aX (zap ((len t3) - 1)) (len t3))) then
   Option.bind (t3[(Int.toNat (zap ((len t3) - 1)))]?) fun x78=>
   some ((Int.tmod x78 2)==1)
   else none
   else
   some false
   else none) fun b79=>
  bif b79 then
   some (.inr ((false,()),()))
  else
  bif ((au 0 (zap ((len t3) - 1))) &&(au (zap ((len t3) - 1)) (len t3))) then
  bif ((au 0 (zap ((len t3) - 1))) &&(au (zap ((len t3) - 1)) (len t4))) then
  du n t0 (List.take ((Int.toNat (zap ((len t3) - 1))) - 0) (List.drop 0 t3)) (List.take ((Int.toNat (zap ((len t3) - 1))) - 0) (List.drop 0 t4)) (zap (t5+1))
  else none
  else none
  else
  bif (aX 0 (len t3)) then
  bif ((au 0 (zap ((len t3) - 1))) &&(aX (zap ((len t3) - 1)) (len t3))) then
  Option.bind (t3[(Int.toNat (zap ((len t3) - 1)))]?) fun x80=>
  bif ((au 0 (zap ((len t3) - 1))) &&(aX (zap ((len t3) - 1)) (len t3))) then
  Option.bind (t3[(Int.toNat (zap ((len t3) - 1)))]?) fun _=>
  Option.bind (bif (au 0 t5) then
   Option.bind (t0[(Int.toNat t5)]?) fun x83=>
   bif (x83.1==3) then
   some true
   else
   bif (au 0 t5) then
   Option.bind (t0[(Int.toNat t5)]?) fun x84=>
   some (x84.1==5)
   else none
   else none) fun b85=>
  bif b85 then
   bif (room (((List.length (List.set t3 (Int.toNat (zap ((len t3) - 1))) (zap (x80+1))))+(List.length (0::([]:List Int))))*9)) then
   bif (au 0 t5) then
   Option.bind (t0[(Int.toNat t5)]?) fun x86=>
   bif (room (((List.length t4)+(List.length ((x86.1==5)::([]:List Bool))))*2)) then
   du n t0 ((List.set t3 (Int.toNat (zap ((len t3) - 1))) (zap (x80+1)))++(0::([]:List Int))) (t4++((x86.1==5)::([]:List Bool))) (zap (t5+1))
   else none
   else none
   else none
  else
  du n t0 (List.set t3 (Int.toNat (zap ((len t3) - 1))) (zap (x80+1))) t4 (zap (t5+1))
  else none
  else none
  else
  Option.bind (bif (au 0 t5) then
  Option.bind (t0[(Int.toNat t5)]?) fun x88=>
  bif (x88.1==3) then
   some true
  else
  bif (au 0 t5) then
  Option.bind (t0[(Int.toNat t5)]?) fun x89=>
  some (x89.1==5)
  else none
  else none) fun b90=>
  bif b90 then
  bif (room (((List.length t3)+(List.length (0::([]:List Int))))*9)) then
  bif (au 0 t5) then
  Option.bind (t0[(Int.toNat t5)]?) fun x91=>
  bif (room (((List.length t4)+(List.length ((x91.1==5)::([]:List Bool))))*2)) then
  du n t0 (t3++(0::([]:List Int))) (t4++((x91.1==5)::([]:List Bool))) (zap (t5+1))
  else none
  else none
  else none
  else
  du n t0 t3 t4 (zap (t5+1))
  else none
 else
 some (.inl ((),()))
noncomputable def Hn:aO:=⟨38,4,none,JY,[(.exit 0,qw),(.ret,yG)],0,fun n x=>du n x.1.1 x.1.2.1 x.1.2.2.1 x.1.2.2.2.1,[]⟩
theorem u7:qw.ok Tryz.prog hint:=Tm.cC rfl
theorem zy:yG.ok Tryz.prog hint:=Tm.cC rfl
theorem xi:JY.ok Tryz.prog hint:=Tm.cC rfl
theorem PC:∀ n,aw Tryz.prog hint aI Hn n:=
 aw.of (hk:=fun β=>(aq.mk [] []).hk β) (sh:=aI) (aQ.of (by kernel_rfl)) xi ⟨⟨u7,zam _,zam _⟩,⟨zy,zam _,zam _⟩,trivial⟩ (fun m=>ab.aC ab.nil m)
  (fun _=>by kernel_rfl) (fun m x=>by kernel_rfl)
noncomputable def fN (n:Nat) (l:List (Int×(List UInt8×(List UInt8×(List UInt8×(Int×Bool)))))):Option (Bool×Unit):=
 Option.bind (du (n+1) l ([]:List Int) ([]:List Bool) 0) fun y92=>
 match y92 with
 | .inl _=>
  some (true,())
 | .inr y94=>
  some (y94.1.1,())
noncomputable def oG:aZ:=⟨38,[(false,(.cy sE))],[(false,.bool)],1,fun n x=>fN n x.1⟩
theorem yL (n:Nat):az Tryz.prog hint aI oG n:=
 az.of (hk:=fun β=>(aq.mk [] [Hn]).hk β) (sh:=aI) (fun m _=>ab.aC (ab.nil.loop PC xi) m) (fun x=>by kernel_rfl)
noncomputable def qX:Tm:=⟨[(1,.one (.int .i64))],[],64,64,1000⟩
noncomputable def yp:Tm:=⟨[(4,.one (.int .i64))],[],64,64,1000⟩
noncomputable def KU:Tm:=⟨[(0,.one (.aT sE)),(1,.one (.int .i64)),(5,.one (.all 64 3 (.int .i64) .any)),(6,.one (.int .i64))],[],64,65,1000⟩
noncomputable def dv:Nat->qE->Int->(List Int)->Int->Option (((Int×Unit)×Unit)⊕((Int×Unit)×Unit))
 |0,_,_,_,_=>none
 |n+1,t0,t1,t5,t6=>
 bif (aX t6 (len t0)) then
  bif (au 0 t6) then
  Option.bind (t0[(Int.toNat t6)]?) fun x46=>
  bif (x46.1==7) then
  bif ((len t5)==0) then
   bif ((au 0 (zap (t6+1))) &&(au (zap (t6+1)) (len t0))) then
   bif ((au 0 t1) &&(au t1 (((Int.toNat (zap (t6+1))):Nat):Int))) then
   Option.bind (fN (n+1) (List.take ((Int.toNat (zap (t6+1))) - (Int.toNat t1)) (List.drop (Int.toNat t1) t0))) fun y47=>
   bif (!y47.1) then
   some (.inr ((t1,()),()))
   else
   some (.inr (((zap (t6+1)),()),()))
   else none
   else none
  else
  dv n t0 t1 t5 (zap (t6+1))
  else
  bif (x46.1==8) then
  bif ((len t5)==0) then
   bif ((au 0 (zap (t6+1))) &&(au (zap (t6+1)) (len t0))) then
   bif ((au 0 t1) &&(au t1 (((Int.toNat (zap (t6+1))):Nat):Int))) then
   Option.bind (fN (n+1) (List.take ((Int.toNat (zap (t6+1))) - (Int.toNat t1)) (List.drop (Int.toNat t1) t0))) fun y48=>
   bif (!y48.1) then
   some (.inr ((t1,()),()))
   else
   some (.inr (((zap (t6+1)),()),()))
   else none
   else none
  else
  dv n t0 t1 t5 (zap (t6+1))
  else
  bif (x46.1==3) then
  bif (au 0 t6) then
  Option.bind (t0[(Int.toNat t6)]?) fun x49=>
  bif (room (((List.length t5)+(List.length ((zap (x49.1+1))::([]:List Int))))*9)) then
  bif ((len (t5++((zap (x49.1+1))::([]:List Int))))==0) then
   bif ((au 0 (zap (t6+1))) &&(au (zap (t6+1)) (len t0))) then
   bif ((au 0 t1) &&(au t1 (((Int.toNat (zap (t6+1))):Nat):Int))) then
   Option.bind (fN (n+1) (List.take ((Int.toNat (zap (t6+1))) - (Int.toNat t1)) (List.drop (Int.toNat t1) t0))) fun y50=>
   bif (!y50.1) then
   some (.inr ((t1,()),()))
   else
   some (.inr (((zap (t6+1)),()),()))
   else none
   else none
  else
  dv n t0 t1 (t5++((zap (x49.1+1))::([]:List Int))) (zap (t6+1))
  else none
  else none
  else
  bif (x46.1==5) then
  bif (au 0 t6) then
  Option.bind (t0[(Int.toNat t6)]?) fun x51=>
  bif (room (((List.length t5)+(List.length ((zap (x51.1+1))::([]:List Int))))*9)) then
  bif ((len (t5++((zap (x51.1+1))::([]:List Int))))==0) then
   bif ((au 0 (zap (t6+1))) &&(au (zap (t6+1)) (len t0))) then
   bif ((au 0 t1) &&(au t1 (((Int.toNat (zap (t6+1))):Nat):Int))) then
   Option.bind (fN (n+1) (List.take ((Int.toNat (zap (t6+1))) - (Int.toNat t1)) (List.drop (Int.toNat t1) t0))) fun y52=>
   bif (!y52.1) then
   some (.inr ((t1,()),()))
   else
   some (.inr (((zap (t6+1)),()),()))
   else none
   else none
  else
  dv n t0 t1 (t5++((zap (x51.1+1))::([]:List Int))) (zap (t6+1))
  else none
  else none
  else
  bif (x46.1==4) then
  bif ((len t5)==0) then
   some (.inr ((t1,()),()))
  else
  bif ((au 0 (zap ((len t5) - 1))) &&(aX (zap ((len t5) - 1)) (len t5))) then
  Option.bind (t5[(Int.toNat (zap ((len t5) - 1)))]?) fun x53=>
  bif (au 0 t6) then
  Option.bind (t0[(Int.toNat t6)]?) fun x54=>
  bif (x53 !=x54.1) then
   some (.inr ((t1,()),()))
  else
  bif ((au 0 (zap ((len t5) - 1))) &&(au (zap ((len t5) - 1)) (len t5))) then
  bif (((((Int.toNat (zap ((len t5) - 1))) - 0):Nat):Int)==0) then
   bif ((au 0 (zap (t6+1))) &&(au (zap (t6+1)) (len t0))) then
   bif ((au 0 t1) &&(au t1 (((Int.toNat (zap (t6+1))):Nat):Int))) then
   Option.bind (fN (n+1) (List.take ((Int.toNat (zap (t6+1))) - (Int.toNat t1)) (List.drop (Int.toNat t1) t0))) fun y55=>
   bif (!y55.1) then
   some (.inr ((t1,()),()))
   else
   some (.inr (((zap (t6+1)),()),()))
   else none
   else none
  else
  dv n t0 t1 (List.take ((Int.toNat (zap ((len t5) - 1))) - 0) (List.drop 0 t5)) (zap (t6+1))
  else none
  else none
  else none
  else
  bif (x46.1==6) then
  bif ((len t5)==0) then
   some (.inr ((t1,()),()))
  else
  bif ((au 0 (zap ((len t5) - 1))) &&(aX (zap ((len t5) - 1)) (len t5))) then
  Option.bind (t5[(Int.toNat (zap ((len t5) - 1)))]?) fun x56=>
  bif (au 0 t6) then
  Option.bind (t0[(Int.toNat t6)]?) fun x57=>
  bif (x56 !=x57.1) then
   some (.inr ((t1,()),()))
  else
  bif ((au 0 (zap ((len t5) - 1))) &&(au (zap ((len t5) - 1)) (len t5))) then
  bif (((((Int.toNat (zap ((len t5) - 1))) - 0):Nat):Int)==0) then
   bif ((au 0 (zap (t6+1))) &&(au (zap (t6+1)) (len t0))) then
   bif ((au 0 t1) &&(au t1 (((Int.toNat (zap (t6+1))):Nat):Int))) then
   Option.bind (fN (n+1) (List.take ((Int.toNat (zap (t6+1))) - (Int.toNat t1)) (List.drop (Int.toNat t1) t0))) fun y58=>
   bif (!y58.1) then
   some (.inr ((t1,()),()))
   else
   some (.inr (((zap (t6+1)),()),()))
   else none
   else none
  else
  dv n t0 t1 (List.take ((Int.toNat (zap ((len t5) - 1))) - 0) (List.drop 0 t5)) (zap (t6+1))
  else none
  else none
  else none
  else
  some (.inr ((t1,()),()))
  else none
 else
 some (.inl ((t1,()),()))
noncomputable def G9:aO:=⟨37,5,none,KU,[(.exit 0,qX),(.ret,yp)],2,fun n x=>dv n x.1.1 x.1.2.1 x.1.2.2.1 x.1.2.2.2.1,[]⟩
theorem uI:qX.ok Tryz.prog hint:=Tm.cC rfl
theorem Ah:yp.ok Tryz.prog hint:=Tm.cC rfl
theorem xA:KU.ok Tryz.prog hint:=Tm.cC rfl
theorem OX:∀ n,aw Tryz.prog hint aI G9 n:=
 aw.of (hk:=fun β=>(aq.mk [oG] []).hk β) (sh:=aI) (aQ.of (by kernel_rfl)) xA ⟨⟨uI,zam _,zam _⟩,⟨Ah,zam _,zam _⟩,trivial⟩ (fun m=>ab.aC (ab.nil.fn yL) m)
  (fun _=>by kernel_rfl) (fun m x=>by kernel_rfl)
noncomputable def RZ (n:Nat) (l:List (Int×(List UInt8×(List UInt8×(List UInt8×(Int×Bool)))))) (i:Int):Option (Int×Unit):=
 Option.bind (bif (aX i 0) then
  some true
 else
 some (au (len l) i)) fun b1=>
 bif b1 then
 some (i,())
 else
 Option.bind (dv n l i ([]:List Int) i) fun y59=>
 match y59 with
 | .inl y60=>
  some (y60.1.1,())
 | .inr y61=>
  some (y61.1.1,())
noncomputable def Kz:aZ:=⟨37,[(false,(.cy sE)),(false,(.int .i64))],[(false,(.int .i64))],2,fun n x=>RZ n x.1 x.2.1⟩
theorem RY (n:Nat):az Tryz.prog hint aI Kz n:=
 az.of (hk:=fun β=>(aq.mk [] [G9]).hk β) (sh:=aI) (fun m _=>ab.aC (ab.nil.loop OX xA) m) (fun x=>by kernel_rfl)
noncomputable def oY:Tm:=⟨[(0,.one (.aT sE))],[],64,64,1000⟩
noncomputable def xR:Tm:=⟨[(2,.one (.bool))],[],64,64,1000⟩
noncomputable def J3:Tm:=⟨[(0,.one (.aT sE)),(3,.one (.int .i64))],[],64,64,1000⟩
noncomputable def A4:Nat->qE->Int->Option (((qE×Unit)×Unit)⊕((Bool×Unit)×Unit))
 |0,_,_=>none
 |n+1,t0,t3=>
 bif (aX t3 (len t0)) then
  bif (au 0 t3) then
  Option.bind (t0[(Int.toNat t3)]?) fun x4=>
  Option.bind (Jk (n+1) (x4.1,(x4.2.1,(x4.2.2.1,(x4.2.2.2.1,(x4.2.2.2.2.1,x4.2.2.2.2.2)))))) fun y5=>
  bif (!y5.1) then
  some (.inr ((false,()),()))
  else
  A4 n t0 (zap (t3+1))
  else none
 else
 some (.inl ((t0,()),()))
noncomputable def EN:aO:=⟨19,2,none,J3,[(.exit 0,oY),(.ret,xR)],1,fun n x=>A4 n x.1.1 x.1.2.1,[]⟩
theorem uK:oY.ok Tryz.prog hint:=Tm.cC rfl
theorem zq:xR.ok Tryz.prog hint:=Tm.cC rfl
theorem yf:J3.ok Tryz.prog hint:=Tm.cC rfl
theorem PD:∀ n,aw Tryz.prog hint aI EN n:=
 aw.of (hk:=fun β=>(aq.mk [NY] []).hk β) (sh:=aI) (aQ.of (by kernel_rfl)) yf ⟨⟨uK,zam _,zam _⟩,⟨zq,zam _,zam _⟩,trivial⟩ (fun m=>ab.aC (ab.nil.fn UH) m)
  (fun _=>by kernel_rfl) (fun m x=>by kernel_rfl)
noncomputable def qk:Tm:=⟨[],[],64,64,2001⟩
noncomputable def wV:Tm:=⟨[(2,.one (.bool))],[],64,64,2001⟩
noncomputable def J2:Tm:=⟨[(0,.one (.aT sE)),(4,.one (.int .i64))],[],64,64,2001⟩
noncomputable def BB:Nat->qE->Int->Option ((Unit×Unit)⊕((Bool×Unit)×Unit))
 |0,_,_=>none
 |n+1,t0,t4=>
 bif (aX t4 (len t0)) then
  bif (au 0 t4) then
  Option.bind (t0[(Int.toNat t4)]?) fun x17=>
  bif (x17.1 !=1) then
  some (.inr ((false,()),()))
  else
  Option.bind (RZ (n+1) t0 (zap (t4+1))) fun y18=>
  bif (y18.1==(zap (t4+1))) then
  some (.inr ((false,()),()))
  else
  bif (au (len t0) y18.1) then
  some (.inr ((false,()),()))
  else
  bif (au 0 y18.1) then
  Option.bind (t0[(Int.toNat y18.1)]?) fun x19=>
  bif (x19.1 !=2) then
  some (.inr ((false,()),()))
  else
  bif ((au 0 y18.1) &&(au y18.1 (len t0))) then
  bif ((au 0 (zap (t4+1))) &&(au (zap (t4+1)) (((Int.toNat y18.1):Nat):Int))) then
  Option.bind (fN (n+2) (List.take ((Int.toNat y18.1) - (Int.toNat (zap (t4+1)))) (List.drop (Int.toNat (zap (t4+1))) t0))) fun y20=>
  bif (!y20.1) then
  some (.inr ((false,()),()))
  else
  BB n t0 (zap (y18.1+1))
  else none
  else none
  else none
  else none
 else
 some (.inl ((),()))
noncomputable def Fg:aO:=⟨19,7,none,J2,[(.exit 2,qk),(.ret,wV)],3,fun n x=>BB n x.1.1 x.1.2.1,[]⟩
theorem vd:qk.ok Tryz.prog hint:=Tm.cC rfl
theorem zw:wV.ok Tryz.prog hint:=Tm.cC rfl
theorem xT:J2.ok Tryz.prog hint:=Tm.cC rfl
theorem N4:∀ n,aw Tryz.prog hint aI Fg n:=
 aw.of (hk:=fun β=>(aq.mk [oG,Kz] []).hk β) (sh:=aI) (aQ.of (by kernel_rfl)) xT ⟨⟨vd,zam _,zam _⟩,⟨zw,zam _,zam _⟩,trivial⟩ (fun m=>ab.aC ((ab.nil.fn RY).fn yL) m)
  (fun _=>by kernel_rfl) (fun m x=>by kernel_rfl)
noncomputable def o8 (n:Nat) (l:List (Int×(List UInt8×(List UInt8×(List UInt8×(Int×Bool)))))):Option (Bool×Unit):=
 Option.bind (A4 (n+2) l 0) fun y6=>
 match y6 with
 | .inl y7=>
  Option.bind (BB n y7.1.1 0) fun y21=>
  match y21 with
  | .inl _=>
   some (true,())
  | .inr y23=>
   some (y23.1.1,())
 | .inr y8=>
  some (y8.1.1,())
noncomputable def oJ:aZ:=⟨19,[(false,(.cy sE))],[(false,.bool)],3,fun n x=>o8 n x.1⟩
theorem xv (n:Nat):az Tryz.prog hint aI oJ n:=
 az.of (hk:=fun β=>(aq.mk [] [Fg,EN]).hk β) (sh:=aI) (fun m _=>ab.aC ((ab.nil.loop PD yf).loop N4 xT) m) (fun x=>by kernel_rfl)
noncomputable def o6:Tm:=⟨[(4,.one (.int .i64))],[],64,64,1000⟩
noncomputable def Lu:Tm:=⟨[(0,.one (.aT sE)),(3,.one (.int .i64)),(4,.one (.int .i64)),(5,.one (.int .i64))],[],64,64,1000⟩
noncomputable def cU:Nat->qE->Int->Int->Int->Option ((Int×Unit)×Unit)
 |0,_,_,_,_=>none
 |n+1,t0,t3,t4,t5=>
 bif (aX t5 (len t0)) then
  bif (au 0 t5) then
  Option.bind (t0[(Int.toNat t5)]?) fun x3=>
  bif (x3.1==3) then
  bif (aX t4 (zap (t3+1))) then
   cU n t0 (zap (t3+1)) (zap (t3+1)) (zap (t5+1))
  else
  cU n t0 (zap (t3+1)) t4 (zap (t5+1))
  else
  bif (x3.1==5) then
  bif (aX t4 (zap (t3+1))) then
   cU n t0 (zap (t3+1)) (zap (t3+1)) (zap (t5+1))
  else
  cU n t0 (zap (t3+1)) t4 (zap (t5+1))
  else
  bif (x3.1==4) then
  bif (aX t4 (zap (t3 - 1))) then
   cU n t0 (zap (t3 - 1)) (zap (t3 - 1)) (zap (t5+1))
  else
  cU n t0 (zap (t3 - 1)) t4 (zap (t5+1))
  else
  bif (x3.1==6) then
  bif (aX t4 (zap (t3 - 1))) then
   cU n t0 (zap (t3 - 1)) (zap (t3 - 1)) (zap (t5+1))
  else
  cU n t0 (zap (t3 - 1)) t4 (zap (t5+1))
  else
  bif (aX t4 t3) then
  cU n t0 t3 t3 (zap (t5+1))
  else
  cU n t0 t3 t4 (zap (t5+1))
  else none
 else
 some ((t4,()),())
noncomputable def Fi:aO:=⟨20,6,none,Lu,[(.exit 0,o6)],0,fun n x=>cU n x.1.1 x.1.2.1 x.1.2.2.1 x.1.2.2.2.1,[]⟩
theorem uR:o6.ok Tryz.prog hint:=Tm.cC rfl
theorem vU:Lu.ok Tryz.prog hint:=Tm.cC rfl
theorem Ol:∀ n,aw Tryz.prog hint aI Fi n:=
 aw.of (hk:=fun β=>(aq.mk [] []).hk β) (sh:=aI) (aQ.of (by kernel_rfl)) vU ⟨⟨uR,zam _,zam _⟩,trivial⟩ (fun m=>ab.aC ab.nil m)
  (fun _=>by kernel_rfl) (fun m x=>by kernel_rfl)
noncomputable def vz (n:Nat) (l:List (Int×(List UInt8×(List UInt8×(List UInt8×(Int×Bool)))))):Option (Int×Unit):=
 Option.bind (o8 n l) fun y0=>
 bif (!y0.1) then
 some (0,())
 else
 Option.bind (cU (n+4) l 0 0 0) fun y4=>
 some (y4.1.1,())
noncomputable def xw:aZ:=⟨20,[(false,(.cy sE))],[(false,(.int .i64))],4,fun n x=>vz n x.1⟩
theorem IN (n:Nat):az Tryz.prog hint aI xw n:=
 az.of (hk:=fun β=>(aq.mk [oJ] [Fi]).hk β) (sh:=aI) (fun m _=>ab.aC ((ab.nil.fn xv).loop Ol vU) m) (fun x=>by kernel_rfl)
set_option maxRecDepth 10000
abbrev cV:=Int×(List UInt8×(List UInt8×(List UInt8×(Int×Bool))))
def td (t:List UInt8):Prop:=t= []∨(ft t=true/\t.length<=10000)
def AE (a:List UInt8):Prop:=a= []∨∃ k,k<=1000000/\a=D5 k
def C5 (fl:Bool) (e:cV):Prop:=
 (∃ k,k<=1000000/\e=(8,([],([],(D5 k,(0,false))))))∨
 (∃ s t a st xs,e=(7,(s,(t,(a,(st,false)))))/\td t/\AE a/\s.length<=9000/\d8 s.length s=some xs/\qg st s xs fl=true)
def eo (m:Bool):Int:=if m then 5 else 3
def eE (m:Bool):cV:=(eo m+1,([],([],([],(0,false)))))
def Yf (m fl:Bool) (k:Nat) (e:cV):Prop:=∃ t a,e=(eo m,([],(t,(a,(0,fl ||decide (k=0))))))/\td t/\AE a
inductive tC (F:Bool):Bool->Bool->Bool->Nat->Nat->List cV->Prop
 |nil {key m odd d}:tC F key m odd d 0 []
 |leaf {key m odd d k e r}:C5 (F ||(key ||(m && !odd))) e->tC F key m (!odd) d k r->tC F key m odd d (k+1) (e::r)
 |pT {key m odd d k m2 k2 e w r}:Yf m2 (F ||(key ||(m && !odd))) k2 e->(m2=true->k2%2=0)->tC F (key ||(m && !odd)) m2 false d k2 w->tC F key m (!odd) (d+1) k r->tC F key m odd (d+1) (k+1) (e::(w++eE m2::r))
theorem tC.snoc {F key m odd:Bool} {d k k':Nat} {w r:List cV} (h:tC F key m odd d k w):tC F key m (odd !=decide (k%2=1)) d k' r->tC F key m odd d (k+k') (w++r):=by
 induction h with
 |nil=>intro h2;simpa using h2
 |@leaf key m odd d k e r' h1 _ ih=>
  intro h2;rw [show k+1+k'=(k+k')+1 by omega];refine .leaf h1 (ih ?_);have:(odd !=decide ((k+1)%2=1))=((!odd) !=decide (k%2=1)):=by
   have:decide ((k+1)%2=1)= !decide (k%2=1):=by
    rw [Bool.eq_iff_iff];simp;omega
   rw [this];cases odd<;>cases decide (k%2=1)<;>rfl
  rw [this] at h2;exact h2
 |@pT key m odd d k m2 k2 e w r' h1 h2 h3 _ _ ih=>
  intro h4;rw [show k+1+k'=(k+k')+1 by omega];rw [show (e::(w++eE m2::r'))++r=e::(w++eE m2::(r'++r)) by simp];refine .pT h1 h2 h3 (ih ?_);have:(odd !=decide ((k+1)%2=1))=((!odd) !=decide (k%2=1)):=by
   have:decide ((k+1)%2=1)= !decide (k%2=1):=by
    rw [Bool.eq_iff_iff];simp;omega
   rw [this];cases odd<;>cases decide (k%2=1)<;>rfl
  rw [this] at h4;exact h4
theorem tC.le {F key m odd:Bool} {d k:Nat} {w:List cV} (h:tC F key m odd d k w):k<=w.length:=by
 induction h with
 |nil=>simp
 |leaf _ _ ih=>simp;omega
 |pT _ _ _ _ _ ih=>simp;omega
theorem Pm (k:Nat):D5 k≠ []:=by unfold D5;simp
theorem LJ (n k:Nat):Jk n (8,([],([],(D5 k,(0,false)))))=some (true,()):=by
 have h:(D5 k==([]:List UInt8))=false:=by rw [beq_eq_false_iff_ne];exact Pm k
 unfold Jk;simp only [h];rfl
theorem JF (n:Nat) (s t a:List UInt8) (st:Int) (h1:1<=st) (h2:st<=5):Jk n (7,(s,(t,(a,(st,false)))))=some (true,()):=by
 have e1:aX st 1=false:=aR h1;have e2:aX 5 st=false:=aR h2;unfold Jk;simp only [e1,e2];rfl
theorem Rn (n:Nat) (m fl:Bool) (t a:List UInt8):Jk n (eo m,([],(t,(a,(0,fl)))))=some (true,()):=by
 cases m<;>rfl
theorem RP (n:Nat) (m:Bool):Jk n (eE m)=some (true,()):=by cases m<;>rfl
def vI (fl:Bool):cV:=(1,([],([],([],(0,fl)))))
def ew:cV:=(2,([],([],([],(0,false)))))
theorem Sf (n:Nat) (fl:Bool):Jk n (vI fl)=some (true,()):=by cases fl<;>rfl
theorem NZ (n:Nat):Jk n ew=some (true,()):=rfl
theorem Tn {fl:Bool} {e:cV} (h:C5 fl e) (n:Nat):Jk n e=some (true,()):=by
 rcases h with ⟨k,_,rfl⟩ |⟨s,t,a,st,xs,rfl,_,_,_,_,h⟩
 ·exact LJ n k
 ·have:=xj h
  exact JF n s t a st this.1 this.2.1
theorem fG {fl:Bool} {e:cV} (h:C5 fl e):e.1=7∨e.1=8:=by
 rcases h with ⟨k,_,rfl⟩ |⟨s,t,a,st,xs,rfl,_⟩
 ·exact .inr rfl
 ·exact .inl rfl
theorem VG {F key m odd:Bool} {d k:Nat} {w:List cV} (h:tC F key m odd d k w):∀ e∈w,∀ n,Jk n e=some (true,()):=by
 induction h with
 |nil=>intro e h;cases h
 |leaf h1 _ ih=>
  intro e h n;rcases List.mem_cons.1 h with rfl |h
  ·exact Tn h1 n
  ·exact ih e h n
 |pT h1 _ _ _ ih1 ih2=>
  intro e h n;rcases List.mem_cons.1 h with rfl |h
  ·obtain ⟨t,a,rfl,_,_⟩:=h1
   exact Rn n _ _ t a
  ·rcases List.mem_append.1 h with h |h
   ·exact ih1 e h n
   ·rcases List.mem_cons.1 h with rfl |h
    ·exact RP n _
    ·exact ih2 e h n
theorem pe {α:Type} (l:List α) (x y:α):List.set (l++ [x]) l.length y=l++ [y]:=by
 rw [List.set_append_right _ _ (zam _)];simp
theorem jU {α:Type} (l:List α) (x:α):List.take (l.length - 0) (List.drop 0 (l++ [x]))=l:=by simp
theorem c7 {α:Type} (l:List α) (x:α):len (l++ [x])=(l.length:Int)+1:=by unfold len;simp
theorem dW {α:Type} (l:List α) (x:α):(l++ [x])[l.length]? =some x:=by simp
theorem H6 (l:List cV) (hl:l.length<1000000000) {F key m odd:Bool} {d k:Nat} {w:List cV} (h:tC F key m odd d k w):∀ (cs:List Int) (c:Int) (ms:List Bool) (mm:Bool) (post:List cV) (i n:Nat),ms.length=cs.length->cs.length+d<=100000->0<=c->c+k<1000000000->l.drop i=w++post->i+w.length<=l.length->
  du (n+w.length) l (cs++ [c]) (ms++ [mm]) (i:Int)=du n l (cs++ [c+k]) (ms++ [mm]) ((i+w.length:Nat):Int):=by
 induction h with
 |nil=>
  intro cs c ms mm post i n _ _ _ _ _ _;simp
 |@leaf key m odd d k e r h1 _ ih=>
  intro cs c ms mm post i n hm hd h0 hc hr hi;simp only [zad] at hi ⊢;have e0:(Int.toNat (i:Int))=i:=rfl;have hx:l[i]? =some e:=by have:=aH hr 0;simpa using this
  have w1:zap ((i:Int)+1)=((i+1:Nat):Int):=by rw [af]<;>omega
  have w2:zap ((cs.length:Int)+1 - 1)=(cs.length:Int):=by rw [Int.add_sub_cancel];exact af (by omega) (by omega)
  have w3:zap (c+1)=c+1:=af (by omega) (by omega);have e1:(Int.toNat (cs.length:Int))=cs.length:=rfl;have hd1:l.drop (i+1)=r++post:=by rw [←zal,hr];rfl
  have b1:au (0:Int) (cs.length:Int)=true:=ao (by omega);have b2:aX (cs.length:Int) ((cs.length:Int)+1)=true:=aB (by omega);have b3:aX (0:Int) ((cs.length:Int)+1)=true:=aB (by omega);have IH:=ih cs (c+1) ms mm post (i+1) n hm hd (by omega) (by omega) hd1 (by omega);have k4:(e.1==4)=false/\(e.1==6)=false/\(e.1==3)=false/\(e.1==5)=false:=by
   rcases fG h1 with h |h<;>rw [h]<;>exact ⟨rfl,rfl,rfl,rfl⟩
  obtain ⟨q1,q2,q3,q4⟩:=k4;rw [show n+(r.length+1)=(n+r.length)+1 by omega,du];simp only [aB (show (i:Int)<len l by unfold len;omega),ao (show (0:Int)<=i by omega),zac,zab,e0,hx,zaa,q1,q2,q3,q4,c7,w1,w2,w3,e1,b1,b2,b3,zai,dW,pe];rw [IH];have a1:c+1+(k:Int)=c+((k+1:Nat):Int):=by omega
  have a2:i+1+r.length=i+(r.length+1):=by omega
  rw [a1,a2]
 |@pT key m odd d k m2 k2 e w r h1 h2 h3 _ ih1 ih2=>
  intro cs c ms mm post i n hm hd h0 hc hr hi;have hk2:=h3.le;simp only [zad,zaf] at hi ⊢;obtain ⟨t,a,rfl,_,_⟩:=h1;have e0:(Int.toNat (i:Int))=i:=rfl;have hx:l[i]? =some (eo m2,([],(t,(a,(0,(F ||(key ||(m && !odd))) ||decide (k2=0)))))):=by have:=aH hr 0;simpa using this
  have w1:zap ((i:Int)+1)=((i+1:Nat):Int):=by rw [af]<;>omega
  have w2:zap ((cs.length:Int)+1 - 1)=(cs.length:Int):=by rw [Int.add_sub_cancel];exact af (by omega) (by omega)
  have w3:zap (c+1)=c+1:=af (by omega) (by omega);have e1:(Int.toNat (cs.length:Int))=cs.length:=rfl;have hd1:l.drop (i+1)=w++(eE m2::(r++post)):=by rw [←zal,hr];simp
  have hd2:l.drop (i+1+w.length)=eE m2::(r++post):=by rw [←zal,hd1];simp
  have hd3:l.drop (i+1+w.length+1)=r++post:=by rw [←zal,hd2];rfl
  have hx2:l[i+1+w.length]? =some (eE m2):=by have:=aH hd2 0;simpa using this
  have b1:au (0:Int) (cs.length:Int)=true:=ao (by omega);have b2:aX (cs.length:Int) ((cs.length:Int)+1)=true:=aB (by omega);have b3:aX (0:Int) ((cs.length:Int)+1)=true:=aB (by omega);have IH1:=ih1 (cs++ [c+1]) 0 (ms++ [mm]) m2 (eE m2::(r++post)) (i+1) (n+r.length+1) (by simp;omega) (by simp;omega) (by omega) (by omega) hd1 (by omega);have IH2:=ih2 cs (c+1) ms mm post (i+1+w.length+1) n hm hd (by omega) (by omega) hd3 (by omega);rw [Int.zero_add] at IH1;have r1:room ((cs++ [c+1]).length*9+9)=true:=bQ (by simp;omega);have rm1:room (((cs++ [c+1]).length+List.length ((0:Int)::([]:List Int)))*9)=true:=bQ (by simp;omega);have rm2:∀ b:Bool,room (((ms++ [mm]).length+List.length (b::([]:List Bool)))*2)=true:=fun b=>bQ (by simp;omega)
  have kq:(eo m2==4)=false/\(eo m2==6)=false/\(bif eo m2==3 then some true else some (eo m2==5):Option Bool)=some true/\(eo m2==5)=m2:=by cases m2<;>exact ⟨rfl,rfl,rfl,rfl⟩
  obtain ⟨q1,q2,q3,q4⟩:=kq;have step1:du (n+(w.length+(r.length+1)+1)) l (cs++ [c]) (ms++ [mm]) (i:Int)=du (n+r.length+1+w.length) l ((cs++ [c+1])++ [0]) ((ms++ [mm])++ [m2]) ((i+1:Nat):Int):=by
   rw [show n+(w.length+(r.length+1)+1)=(n+r.length+1+w.length)+1 by omega]
   conv=>lhs;rw [du]
   simp only [aB (show (i:Int)<len l by unfold len;omega),ao (show (0:Int)<=i by omega),zac,zab,e0,hx,zaa,q1,q2,c7,w1,w2,w3,e1,b1,b2,b3,zai,dW,pe,q3,rm1,rm2,q4];cases m2<;>rfl
  rw [step1,IH1];have e2:(Int.toNat ((i+1+w.length:Nat):Int))=i+1+w.length:=rfl;have w4:zap (((i+1+w.length:Nat):Int)+1)=((i+1+w.length+1:Nat):Int):=by rw [af]<;>omega
  have hcl:((cs++ [c+1]).length:Int)=(cs.length:Int)+1:=by simp
  have w5:zap (((cs++ [c+1]).length:Int)+1 - 1)=((cs++ [c+1]).length:Int):=by rw [Int.add_sub_cancel];exact af (by omega) (by omega)
  have e3:(Int.toNat ((cs++ [c+1]).length:Int))=(cs++ [c+1]).length:=rfl;have hml:(cs++ [c+1]).length=(ms++ [mm]).length:=by simp;omega
  have b4:au (0:Int) ((cs++ [c+1]).length:Int)=true:=ao (by omega);have b5:aX ((cs++ [c+1]).length:Int) (((cs++ [c+1]).length:Int)+1)=true:=aB (by omega);have b6:au ((cs++ [c+1]).length:Int) (((cs++ [c+1]).length:Int)+1)=true:=ao (by omega);have lm:len ((ms++ [mm])++ [m2])=((cs++ [c+1]).length:Int)+1:=by rw [c7,hml]
  have gm:((ms++ [mm])++ [m2])[(cs++ [c+1]).length]? =some m2:=by rw [hml];exact dW _ _
  have tm:List.take ((cs++ [c+1]).length - 0) (List.drop 0 ((ms++ [mm])++ [m2]))=ms++ [mm]:=by rw [hml];exact jU _ _
  have md:(Int.tmod ((k2:Nat):Int) 2==1)=decide (k2%2=1):=by
   rw [Int.tmod_eq_emod_of_nonneg (by omega),kp,decide_eq_decide];omega
  have ke:((eE m2).1==4)= !m2/\((eE m2).1==6)=m2:=by cases m2<;>exact ⟨rfl,rfl⟩
  have step2:du (n+r.length+1) l ((cs++ [c+1])++ [(k2:Int)]) ((ms++ [mm])++ [m2]) ((i+1+w.length:Nat):Int)=du (n+r.length) l (cs++ [c+1]) (ms++ [mm]) ((i+1+w.length+1:Nat):Int):=by
   conv=>lhs;rw [du]
   simp only [aB (show ((i+1+w.length:Nat):Int)<len l by unfold len;omega),ao (show (0:Int)<=((i+1+w.length:Nat):Int) by omega),zac,zab,e2,hx2,zaa,ke.1,ke.2,c7 (cs++ [c+1]),lm,w4,w5,e3,b4,b5,b6,zai,dW,gm,jU,tm,md];cases hm2:m2 with
   |false=>rfl
   |true=>
    have:decide (k2%2=1)=false:=by rw [decide_eq_false_iff_not];have:=h2 hm2;omega
    simp only [this];rfl
  rw [step2,IH2];have a1:c+1+(k:Int)=c+((k+1:Nat):Int):=by omega
  have a2:i+1+w.length+1+r.length=i+(w.length+(r.length+1)+1):=by omega
  rw [a1,a2]
theorem ym {F key m odd:Bool} {d k:Nat} {w:List cV} (h:tC F key m odd d k w) (hk:k=1) (hw:w.length<900000000) (hd:d<=10000) (n:Nat) (hn:w.length+2<=n):fN n w=some (true,()):=by
 unfold fN;cases h with
 |nil=>cases hk
 |@leaf _ _ _ _ k e r h1 h3=>
  have hk0:k=0:=by omega
  subst hk0;cases h3;obtain ⟨n,rfl⟩:∃ x,n=x+1:=⟨n - 1,by simp at hn;omega⟩;have k4:(e.1==4)=false/\(e.1==6)=false/\(e.1==3)=false/\(e.1==5)=false:=by
   rcases fG h1 with h |h<;>rw [h]<;>exact ⟨rfl,rfl,rfl,rfl⟩
  obtain ⟨q1,q2,q3,q4⟩:=k4;have:du (n+1+1) [e] [] [] 0=some (.inl ((),())):=by
   have x0:([e]:List cV)[Int.toNat 0]? =some e:=rfl;have x1:aX 0 (len [e])=true:=rfl;have x2:au (0:Int) 0=true:=rfl;have x3:aX 0 (len ([]:List Int))=false:=rfl;rw [du];simp only [x0,x1,x2,x3,q1,q2,q3,q4,zac,zab,zaa];rfl
  refine (congrArg (fun z=>Option.bind z _) this).trans ?_;rfl
 |@pT _ _ _ d k m2 k2 e w r h1 h2 h3 h4=>
  have hk0:k=0:=by omega
  subst hk0;cases h4;obtain ⟨t,a,rfl,_,_⟩:=h1;simp only [zad,zaf,zah] at hw hn;generalize hg:(((eo m2,([],(t,(a,(0,(F ||(key ||(m && !odd))) ||decide (k2=0)))))):cV)::(w++ [eE m2]))=l;have hk2:=h3.le;have hl:l.length=w.length+2:=by rw [←hg];simp
  have hx:l[0]? =some (eo m2,([],(t,(a,(0,(F ||(key ||(m && !odd))) ||decide (k2=0)))))):=by rw [←hg];rfl
  have hd1:l.drop 1=w++ [eE m2]:=by rw [←hg];rfl
  have hx2:l[1+w.length]? =some (eE m2):=by
   have:=aH hd1 w.length;rw [this];simp
  obtain ⟨n,rfl⟩:∃ x,n=x+2+w.length:=⟨n - 2 - w.length,by omega⟩;have P:=H6 l (by omega) h3 [] 0 [] m2 [eE m2] 1 (n+2) rfl (by simp;omega) (by omega) (by omega) hd1 (by omega);rw [Int.zero_add] at P;simp only [List.nil_append] at P;have kq:(eo m2==4)=false/\(eo m2==6)=false/\(bif eo m2==3 then some true else some (eo m2==5):Option Bool)=some true/\(eo m2==5)=m2:=by cases m2<;>exact ⟨rfl,rfl,rfl,rfl⟩
  obtain ⟨q1,q2,q3,q4⟩:=kq;have x1:aX 0 (len l)=true:=aB (by unfold len;omega);have x2:au (0:Int) 0=true:=rfl;have x3:aX 0 (len ([]:List Int))=false:=rfl;have x4:(Int.toNat 0)=0:=rfl;have x5:zap ((0:Int)+1)=((1:Nat):Int):=rfl;have x6:room ((List.length ([]:List Int)+List.length ((0:Int)::([]:List Int)))*9)=true:=bQ (by simp);have x7:∀ b:Bool,room ((List.length ([]:List Bool)+List.length (b::([]:List Bool)))*2)=true:=fun b=>bQ (by simp)
  have s1:du (n+2+w.length+1) l [] [] 0=du (n+2+w.length) l [0] [m2] ((1:Nat):Int):=by
   conv=>lhs;rw [du]
   simp only [x1,x2,x3,x4,x5,x6,x7,hx,q1,q2,q4,zac,zab,zaa];cases m2<;>rfl
  have md:(Int.tmod ((k2:Nat):Int) 2==1)=decide (k2%2=1):=by
   rw [Int.tmod_eq_emod_of_nonneg (by omega),kp,decide_eq_decide];omega
  have ke:((eE m2).1==4)= !m2/\((eE m2).1==6)=m2:=by cases m2<;>exact ⟨rfl,rfl⟩
  have y1:aX ((1+w.length:Nat):Int) (len l)=true:=aB (by unfold len;omega);have y2:au (0:Int) ((1+w.length:Nat):Int)=true:=ao (by omega);have y3:(Int.toNat ((1+w.length:Nat):Int))=1+w.length:=rfl;have y4:zap (((1+w.length:Nat):Int)+1)=((1+w.length+1:Nat):Int):=by rw [af]<;>omega
  have y5:∀ x:Int,zap (len [x] - 1)=0:=fun x=>rfl
  have y6:(au (0:Int) 0 &&aX (0:Int) (len [m2]))=true:=rfl;have y7:∀ x:Int,(au (0:Int) 0 &&aX (0:Int) (len [x]))=true:=fun x=>rfl
  have y8:∀ x:Int,(au (0:Int) 0 &&au (0:Int) (len [x]))=true:=fun x=>rfl
  have y9:(au (0:Int) 0 &&au (0:Int) (len [m2]))=true:=rfl;have z1:([m2]:List Bool)[0]? =some m2:=rfl;have z2:∀ x:Int,([x]:List Int)[0]? =some x:=fun x=>rfl
  have s2:du (n+2) l [(k2:Int)] [m2] ((1+w.length:Nat):Int)=some (.inl ((),())):=by
   rw [du];simp only [y1,y2,y3,y4,y5,y6,y7,y8,y9,x4,hx2,z1,z2,ke.1,ke.2,md,zac,zab,zaa];have fin:du (n+1) l [] [] ((1+w.length+1:Nat):Int)=some (.inl ((),())):=by
    rw [du];simp only [aR (show len l<=((1+w.length+1:Nat):Int) by unfold len;omega),zab]
   cases hm2:m2 with
   |false=>exact fin
   |true=>
    have:decide (k2%2=1)=false:=by rw [decide_eq_false_iff_not];have:=h2 hm2;omega
    simp only [this];exact fin
  refine (congrArg (fun z=>Option.bind z _) (s1.trans (P.trans s2))).trans ?_;rfl
set_option maxRecDepth 10000
theorem S7 (l:List cV) (hl:l.length<1000000000) (t1:Int) {F key m odd:Bool} {d k:Nat} {w:List cV} (h:tC F key m odd d k w):∀ (st:List Int) (x:Int) (post:List cV) (i n:Nat),st.length+d<=100000->l.drop i=w++post->i+w.length<=l.length->
  dv (n+w.length) l t1 (st++ [x]) (i:Int)=dv n l t1 (st++ [x]) ((i+w.length:Nat):Int):=by
 induction h with
 |nil=>intro st x post i n _ _ _;simp
 |@leaf key m odd d k e r h1 _ ih=>
  intro st x post i n hd hr hi;simp only [zad] at hi ⊢;have e0:(Int.toNat (i:Int))=i:=rfl;have hx:l[i]? =some e:=by have:=aH hr 0;simpa using this
  have w1:zap ((i:Int)+1)=((i+1:Nat):Int):=by rw [af]<;>omega
  have hd1:l.drop (i+1)=r++post:=by rw [←zal,hr];rfl
  have IH:=ih st x post (i+1) n hd hd1 (by omega);have z:(((st.length:Int)+1)==0)=false:=by rw [beq_eq_false_iff_ne];omega
  have step:dv (n+r.length+1) l t1 (st++ [x]) (i:Int)=dv (n+r.length) l t1 (st++ [x]) ((i+1:Nat):Int):=by
   conv=>lhs;rw [dv]
   simp only [aB (show (i:Int)<len l by unfold len;omega),ao (show (0:Int)<=i by omega),zac,zab,e0,hx,zaa,c7,w1,z];rcases fG h1 with h |h
   ·have q:(e.1==7)=true:=by rw [h];rfl
    simp only [q,zac]
   ·have q:(e.1==7)=false:=by rw [h];rfl
    have q2:(e.1==8)=true:=by rw [h];rfl
    simp only [q,q2,zac,zab]
  rw [show n+(r.length+1)=n+r.length+1 by omega,step,IH];rw [show i+1+r.length=i+(r.length+1) by omega]
 |@pT key m odd d k m2 k2 e w r h1 h2 h3 _ ih1 ih2=>
  intro st x post i n hd hr hi;simp only [zad,zaf] at hi ⊢;obtain ⟨t,a,rfl,_,_⟩:=h1;have e0:(Int.toNat (i:Int))=i:=rfl;have hx:l[i]? =some (eo m2,([],(t,(a,(0,(F ||(key ||(m && !odd))) ||decide (k2=0)))))):=by have:=aH hr 0;simpa using this
  have w1:zap ((i:Int)+1)=((i+1:Nat):Int):=by rw [af]<;>omega
  have hd1:l.drop (i+1)=w++(eE m2::(r++post)):=by rw [←zal,hr];simp
  have hd2:l.drop (i+1+w.length)=eE m2::(r++post):=by rw [←zal,hd1];simp
  have hd3:l.drop (i+1+w.length+1)=r++post:=by rw [←zal,hd2];rfl
  have hx2:l[i+1+w.length]? =some (eE m2):=by have:=aH hd2 0;simpa using this
  have IH1:=ih1 (st++ [x]) (eo m2+1) (eE m2::(r++post)) (i+1) (n+r.length+1) (by simp;omega) hd1 (by omega);have IH2:=ih2 st x post (i+1+w.length+1) n hd hd3 (by omega);have wk:zap (eo m2+1)=eo m2+1:=by cases m2<;>rfl
  have rm:room (((st++ [x]).length+List.length ((eo m2+1)::([]:List Int)))*9)=true:=bQ (by simp;omega);have z:((((st++ [x]).length:Int)+1)==0)=false:=by rw [beq_eq_false_iff_ne];omega
  have step1:dv (n+r.length+1+w.length+1) l t1 (st++ [x]) (i:Int)=dv (n+r.length+1+w.length) l t1 ((st++ [x])++ [eo m2+1]) ((i+1:Nat):Int):=by
   conv=>lhs;rw [dv]
   simp only [aB (show (i:Int)<len l by unfold len;omega),ao (show (0:Int)<=i by omega),zac,zab,e0,hx,zaa,wk,rm,c7 (st++ [x]),w1,z];cases m2<;>rfl
  have e2:(Int.toNat ((i+1+w.length:Nat):Int))=i+1+w.length:=rfl;have w4:zap (((i+1+w.length:Nat):Int)+1)=((i+1+w.length+1:Nat):Int):=by rw [af]<;>omega
  have hcl:((st++ [x]).length:Int)=(st.length:Int)+1:=by simp
  have w5:zap (((st++ [x]).length:Int)+1 - 1)=((st++ [x]).length:Int):=by rw [Int.add_sub_cancel];exact af (by omega) (by omega)
  have e3:(Int.toNat ((st++ [x]).length:Int))=(st++ [x]).length:=rfl;have b4:au (0:Int) ((st++ [x]).length:Int)=true:=ao (by omega);have b5:aX ((st++ [x]).length:Int) (((st++ [x]).length:Int)+1)=true:=aB (by omega);have b6:au ((st++ [x]).length:Int) (((st++ [x]).length:Int)+1)=true:=ao (by omega);have z2:(((((st++ [x]).length - 0:Nat)):Int)==0)=false:=by rw [beq_eq_false_iff_ne];simp;omega
  have ne:(eo m2+1 !=(eE m2).1)=false:=by cases m2<;>rfl
  have step2:dv (n+r.length+1) l t1 ((st++ [x])++ [eo m2+1]) ((i+1+w.length:Nat):Int)=dv (n+r.length) l t1 (st++ [x]) ((i+1+w.length+1:Nat):Int):=by
   conv=>lhs;rw [dv]
   simp only [aB (show ((i+1+w.length:Nat):Int)<len l by unfold len;omega),ao (show (0:Int)<=((i+1+w.length:Nat):Int) by omega),zac,zab,e2,hx2,zaa,c7 (st++ [x]),w4,w5,e3,b4,b5,b6,zai,dW,ne,z,z2,jU];cases m2<;>rfl
  rw [show n+(w.length+(r.length+1)+1)=n+r.length+1+w.length+1 by omega,step1,IH1,step2,IH2];rw [show i+1+w.length+1+r.length=i+(w.length+(r.length+1)+1) by omega]
theorem SP (l:List cV) (hl:l.length<900000000) {F key m odd:Bool} {d k:Nat} {w:List cV} (h:tC F key m odd d k w) (hk:k=1) (hd:d<=10000) (post:List cV) (i n:Nat) (hr:l.drop i=w++post) (hi:i+w.length<=l.length) (hn:2*w.length+10<=n):RZ n l (i:Int)=some (((i+w.length:Nat):Int),()):=by
 have hP:=ym h hk (by omega) hd;have hw:1<=w.length:=by have:=h.le;omega
 have c0:(bif aX (i:Int) 0 then some true else some (au (len l) (i:Int)):Option Bool)=some false:=by
  rw [aR (show (0:Int)<=(i:Int) by omega),zab,kZ (show (i:Int)<len l by unfold len;omega)]
 have e0:(Int.toNat (i:Int))=i:=rfl;have tk:∀ j:Nat,j=i+w.length->List.take (j - i) (List.drop i l)=w:=fun j hj=>by
  subst hj;rw [hr,show i+w.length - i=w.length by omega];simp
 unfold RZ;rw [c0];simp only [zaa,zab];cases h with
 |nil=>cases hk
 |@leaf _ _ _ _ k e r h1 h3=>
  have hk0:k=0:=by omega
  subst hk0;cases h3;obtain ⟨n,rfl⟩:∃ x,n=x+1:=⟨n - 1,by omega⟩;have hx:l[i]? =some e:=by have:=aH hr 0;simpa using this
  have w1:zap ((i:Int)+1)=((i+1:Nat):Int):=by rw [af]<;>simp at hi<;>omega
  have e1:(Int.toNat ((i+1:Nat):Int))=i+1:=rfl;have z:(len ([]:List Int)==0)=true:=rfl;simp only [zad,zah] at hi hn ⊢;have b1:(au (0:Int) ((i+1:Nat):Int) &&au ((i+1:Nat):Int) (len l))=true:=by
   rw [ao (by omega),ao (by unfold len;omega)];rfl
  have b2:(au (0:Int) (i:Int) &&au (i:Int) ((i+1:Nat):Int))=true:=by
   rw [ao (by omega),ao (by omega)];rfl
  have p:=hP (n+1) (by simp;omega);have t:=tk (i+1) (by simp);have:dv (n+1) l (i:Int) [] (i:Int)=some (.inr ((((i+1:Nat):Int),()),())):=by
   rw [dv];simp only [aB (show (i:Int)<len l by unfold len;omega),ao (show (0:Int)<=i by omega),zac,zab,e0,e1,hx,zaa,w1,z,b1,b2,t,p,zag,zak,ao (show (i:Int)<=((i+1:Nat):Int) by omega)];rcases fG h1 with h |h
   ·have q:(e.1==7)=true:=by rw [h];rfl
    simp only [q,zac]
   ·have q:(e.1==7)=false:=by rw [h];rfl
    have q2:(e.1==8)=true:=by rw [h];rfl
    simp only [q,q2,zac,zab]
  rw [this];rfl
 |@pT _ _ _ d k m2 k2 e w r h1 h2 h3 h4=>
  have hk0:k=0:=by omega
  subst hk0;cases h4;obtain ⟨t,a,rfl,_,_⟩:=h1;simp only [zad,zaf,zah] at hi hn ⊢;have hx:l[i]? =some (eo m2,([],(t,(a,(0,(F ||(key ||(m && !odd))) ||decide (k2=0)))))):=by have:=aH hr 0;simpa using this
  have hd1:l.drop (i+1)=w++(eE m2::post):=by rw [←zal,hr];simp
  have hd2:l.drop (i+1+w.length)=eE m2::post:=by rw [←zal,hd1];simp
  have hx2:l[i+1+w.length]? =some (eE m2):=by have:=aH hd2 0;simpa using this
  obtain ⟨n,rfl⟩:∃ x,n=x+1+w.length+1:=⟨n - 2 - w.length,by omega⟩;have P:=S7 l (by omega) (i:Int) h3 [] (eo m2+1) (eE m2::post) (i+1) (n+1) (by simp;omega) hd1 (by omega);simp only [List.nil_append] at P;have w1:zap ((i:Int)+1)=((i+1:Nat):Int):=by rw [af]<;>omega
  have wk:zap (eo m2+1)=eo m2+1:=by cases m2<;>rfl
  have rm:room ((List.length ([]:List Int)+List.length ((eo m2+1)::([]:List Int)))*9)=true:=bQ (by simp);have z:∀ y:Int,(len (([]:List Int)++ [y])==0)=false:=fun y=>rfl
  have step1:dv (n+1+w.length+1) l (i:Int) [] (i:Int)=dv (n+1+w.length) l (i:Int) [eo m2+1] ((i+1:Nat):Int):=by
   conv=>lhs;rw [dv]
   simp only [aB (show (i:Int)<len l by unfold len;omega),ao (show (0:Int)<=i by omega),zac,zab,e0,hx,zaa,wk,rm,w1,z];cases m2<;>rfl
  have e2:(Int.toNat ((i+1+w.length:Nat):Int))=i+1+w.length:=rfl;have e3:(Int.toNat ((i+1+w.length+1:Nat):Int))=i+1+w.length+1:=rfl;have w4:zap (((i+1+w.length:Nat):Int)+1)=((i+1+w.length+1:Nat):Int):=by rw [af]<;>omega
  have y5:∀ y:Int,zap (len [y] - 1)=0:=fun y=>rfl
  have y7:∀ y:Int,(au (0:Int) 0 &&aX (0:Int) (len [y]))=true:=fun y=>rfl
  have y8:∀ y:Int,(au (0:Int) 0 &&au (0:Int) (len [y]))=true:=fun y=>rfl
  have y9:∀ y:Int,(len [y]==0)=false:=fun y=>rfl
  have z2:∀ y:Int,([y]:List Int)[0]? =some y:=fun y=>rfl
  have x4:(Int.toNat 0)=0:=rfl;have x5:((((0 - 0:Nat)):Int)==0)=true:=rfl;have ne:(eo m2+1 !=(eE m2).1)=false:=by cases m2<;>rfl
  have b1:(au (0:Int) ((i+1+w.length+1:Nat):Int) &&au ((i+1+w.length+1:Nat):Int) (len l))=true:=by
   rw [ao (by omega),ao (by unfold len;omega)];rfl
  have b2:(au (0:Int) (i:Int) &&au (i:Int) ((i+1+w.length+1:Nat):Int))=true:=by
   rw [ao (by omega),ao (by omega)];rfl
  have p:=hP (n+1) (by simp;omega);have t:=tk (i+1+w.length+1) (by simp;omega);have step2:dv (n+1) l (i:Int) [eo m2+1] ((i+1+w.length:Nat):Int)=some (.inr ((((i+1+w.length+1:Nat):Int),()),())):=by
   rw [dv];simp only [aB (show ((i+1+w.length:Nat):Int)<len l by unfold len;omega),ao (show (0:Int)<=((i+1+w.length:Nat):Int) by omega),zac,zab,e0,e2,e3,hx2,zaa,w4,y5,y7,y8,y9,z2,x4,x5,ne,b1,b2,t,p,zag];cases m2<;>rfl
  rw [step1,P,step2];rw [show i+1+w.length+1=i+(w.length+(0+1)+1) by omega];rfl
inductive sC (F:Bool):Bool->List cV->Prop
 |nil {b}:sC F b []
 |cons {b fl w r}:(b=true∨fl=true)->tC F false false false 200 1 w->sC F false r->sC F b (vI fl::(w++ew::r))
theorem SA {F b:Bool} {l:List cV} (h:sC F b l):∀ e∈l,∀ n,Jk n e=some (true,()):=by
 induction h with
 |nil=>intro e h;cases h
 |@cons b fl w r _ h2 _ ih=>
  intro e h n;rcases List.mem_cons.1 h with rfl |h
  ·exact Sf n _
  ·rcases List.mem_append.1 h with h |h
   ·exact VG h2 e h n
   ·rcases List.mem_cons.1 h with rfl |h
    ·exact NZ n
    ·exact ih e h n
theorem S4 (l:List cV) (hl:l.length<1000000000) (he:∀ e∈l,∀ n,Jk n e=some (true,())):∀ (r:List cV) (i n:Nat),l.drop i=r->r.length+1<=n->i<=l.length->A4 n l (i:Int)=some (.inl ((l,()),())):=by
 intro r
 induction r with
 |nil=>
  intro i n hr hn hi;obtain ⟨n,rfl⟩:∃ k,n=k+1:=⟨n - 1,by simp at hn;omega⟩;have hlen:l.length<=i:=by simpa using hr
  simp only [A4,aR (show len l<=(i:Int) by unfold len;omega),zab]
 |cons x r ih=>
  intro i n hr hn hi;obtain ⟨n,rfl⟩:∃ k,n=k+1:=⟨n - 1,by simp at hn;omega⟩;simp only [zad] at hn;have hlen:l.length=i+r.length+1:=by
   have:=congrArg List.length hr;simp at this;omega
  have e0:(Int.toNat (i:Int))=i:=rfl;have hx:l[i]? =some x:=by have:=aH hr 0;simpa using this
  have w:zap ((i:Int)+1)=((i+1:Nat):Int):=by rw [af]<;>omega
  have hd:l.drop (i+1)=r:=by rw [←zal,hr];rfl
  have h1:Jk (n+1) (x.1,(x.2.1,(x.2.2.1,(x.2.2.2.1,(x.2.2.2.2.1,x.2.2.2.2.2)))))=some (true,()):=he x (List.mem_of_getElem? hx) (n+1);simp only [A4,aB (show (i:Int)<len l by unfold len;omega),ao (show (0:Int)<=i by omega),zac,zab,e0,hx,zaa,h1,zag,w];exact ih (i+1) n hd (by omega) (by omega)
theorem MA (l:List cV) (hl:l.length<900000000) {F b:Bool} {r:List cV} (h:sC F b r):∀ (i n:Nat),l.drop i=r->i<=l.length->r.length+3*l.length+20<=n->BB n l (i:Int)=some (.inl ((),())):=by
 induction h with
 |nil=>
  intro i n hr hi hn;obtain ⟨n,rfl⟩:∃ k,n=k+1:=⟨n - 1,by omega⟩;have hlen:l.length<=i:=by simpa using hr
  simp only [BB,aR (show len l<=(i:Int) by unfold len;omega),zab]
 |@cons b fl w r _ h2 _ ih=>
  intro i n hr hi hn;obtain ⟨n,rfl⟩:∃ k,n=k+1:=⟨n - 1,by omega⟩;have hlen:l.length=i+(w.length+(r.length+1)+1):=by
   have:=congrArg List.length hr;simp at this;omega
  simp only [zad,zaf] at hn;have hw:1<=w.length:=h2.le;have e0:(Int.toNat (i:Int))=i:=rfl;have hx:l[i]? =some (vI fl):=by have:=aH hr 0;simpa using this
  have w1:zap ((i:Int)+1)=((i+1:Nat):Int):=by rw [af]<;>omega
  have hd1:l.drop (i+1)=w++(ew::r):=by rw [←zal,hr];rfl
  have hd2:l.drop (i+1+w.length)=ew::r:=by rw [←zal,hd1];simp
  have hd3:l.drop (i+1+w.length+1)=r:=by rw [←zal,hd2];rfl
  have hx2:l[i+1+w.length]? =some ew:=by have:=aH hd2 0;simpa using this
  have hE:=SP l hl h2 rfl (by omega) (ew::r) (i+1) (n+1) hd1 (by omega) (by omega);have hP:=ym h2 rfl (by omega) (by omega) (n+2) (by omega);have e1:(Int.toNat ((i+1:Nat):Int))=i+1:=rfl;have e2:(Int.toNat ((i+1+w.length:Nat):Int))=i+1+w.length:=rfl;have w2:zap (((i+1+w.length:Nat):Int)+1)=((i+1+w.length+1:Nat):Int):=by rw [af]<;>omega
  have q1:((vI fl).1 !=1)=false:=rfl;have q2:(ew.1 !=2)=false:=rfl;have q3:((((i+1+w.length:Nat):Int))==((i+1:Nat):Int))=false:=by rw [beq_eq_false_iff_ne];omega
  have b0:au (len l) ((i+1+w.length:Nat):Int)=false:=kZ (by unfold len;omega);have b1:(au (0:Int) ((i+1+w.length:Nat):Int) &&au ((i+1+w.length:Nat):Int) (len l))=true:=by
   rw [ao (by omega),ao (by unfold len;omega)];rfl
  have b2:(au (0:Int) ((i+1:Nat):Int) &&au ((i+1:Nat):Int) ((i+1+w.length:Nat):Int))=true:=by
   rw [ao (by omega),ao (by omega)];rfl
  have tk:List.take (i+1+w.length - (i+1)) (List.drop (i+1) l)=w:=by
   rw [hd1,show i+1+w.length - (i+1)=w.length by omega];simp
  simp only [BB,aB (show (i:Int)<len l by unfold len;omega),ao (show (0:Int)<=i by omega),ao (show (0:Int)<=((i+1+w.length:Nat):Int) by omega),zac,zab,e0,hx,zaa,q1,w1,hE,q3,b0,e2,hx2,q2,b1,b2,e1,tk,hP,zag,w2,zak,ao (show ((i+1+w.length:Nat):Int)<=len l by unfold len;omega)];exact ih (i+1+w.length+1) n hd3 (by omega) (by omega)
theorem ph (l:List cV) (hl:l.length<900000000) {F b:Bool} (h:sC F b l) (n:Nat) (hn:4*l.length+30<=n):o8 n l=some (true,()):=by
 have h1:=S4 l (by omega) (SA h) l 0 (n+2) rfl (by omega) (by omega);have h2:=MA l hl h 0 n rfl (by omega) (by omega);unfold o8;refine (congrArg (fun z=>Option.bind z _) h1).trans ?_;simp only [zaa];refine (congrArg (fun z=>Option.bind z _) h2).trans ?_;rfl
theorem Nf (l:List cV) (hl:l.length<1000000000) {F key m odd:Bool} {d k:Nat} {w:List cV} (h:tC F key m odd d k w):∀ (c ms:Int) (post:List cV) (i n:Nat),0<=c->c<=ms->c+d<=200->ms<=200->l.drop i=w++post->i+w.length<=l.length->
  ∃ ms',cU (n+w.length) l c ms (i:Int)=cU n l c ms' ((i+w.length:Nat):Int)/\c<=ms'/\ms'<=200:=by
 induction h with
 |nil=>intro c ms post i n h0 h1 h2 h3 _ _;exact ⟨ms,by simp,h1,h3⟩
 |@leaf key m odd d k e r h1 _ ih=>
  intro c ms post i n h0 hc h2 h3 hr hi;simp only [zad] at hi ⊢;have e0:(Int.toNat (i:Int))=i:=rfl;have hx:l[i]? =some e:=by have:=aH hr 0;simpa using this
  have w1:zap ((i:Int)+1)=((i+1:Nat):Int):=by rw [af]<;>omega
  have hd1:l.drop (i+1)=r++post:=by rw [←zal,hr];rfl
  obtain ⟨ms',IH,a1,a2⟩:=ih c ms post (i+1) n h0 hc h2 h3 hd1 (by omega);have k4:(e.1==4)=false/\(e.1==6)=false/\(e.1==3)=false/\(e.1==5)=false:=by
   rcases fG h1 with h |h<;>rw [h]<;>exact ⟨rfl,rfl,rfl,rfl⟩
  obtain ⟨q1,q2,q3,q4⟩:=k4;refine ⟨ms',?_,a1,a2⟩;rw [show n+(r.length+1)=n+r.length+1 by omega,cU];simp only [aB (show (i:Int)<len l by unfold len;omega),ao (show (0:Int)<=i by omega),zac,zab,e0,hx,zaa,q1,q2,q3,q4,w1,aR hc];rw [IH,show i+1+r.length=i+(r.length+1) by omega]
 |@pT key m odd d k m2 k2 e w r h1 h2 h3 _ ih1 ih2=>
  intro c ms post i n h0 hc hd h3' hr hi;simp only [zad,zaf] at hi ⊢;obtain ⟨t,a,rfl,_,_⟩:=h1;have e0:(Int.toNat (i:Int))=i:=rfl;have hx:l[i]? =some (eo m2,([],(t,(a,(0,(F ||(key ||(m && !odd))) ||decide (k2=0)))))):=by have:=aH hr 0;simpa using this
  have w1:zap ((i:Int)+1)=((i+1:Nat):Int):=by rw [af]<;>omega
  have w2:zap (c+1)=c+1:=af (by omega) (by omega);have w3:zap (c+1 - 1)=c:=by rw [Int.add_sub_cancel];exact af (by omega) (by omega)
  have hd1:l.drop (i+1)=w++(eE m2::(r++post)):=by rw [←zal,hr];simp
  have hd2:l.drop (i+1+w.length)=eE m2::(r++post):=by rw [←zal,hd1];simp
  have hd3:l.drop (i+1+w.length+1)=r++post:=by rw [←zal,hd2];rfl
  have hx2:l[i+1+w.length]? =some (eE m2):=by have:=aH hd2 0;simpa using this
  have e2:(Int.toNat ((i+1+w.length:Nat):Int))=i+1+w.length:=rfl;have w4:zap (((i+1+w.length:Nat):Int)+1)=((i+1+w.length+1:Nat):Int):=by rw [af]<;>omega
  obtain ⟨ms1,hm1,hm2,s1⟩:∃ ms1,c+1<=ms1/\ms1<=200/\cU (n+r.length+1+w.length+1) l c ms (i:Int)=cU (n+r.length+1+w.length) l (c+1) ms1 ((i+1:Nat):Int):=by
   by_cases hlt:ms<c+1
   ·refine ⟨c+1,by omega,by omega,?_⟩
    conv=>lhs;rw [cU]
    simp only [aB (show (i:Int)<len l by unfold len;omega),ao (show (0:Int)<=i by omega),zac,zab,e0,hx,zaa,w1,w2,aB hlt];cases m2<;>rfl
   ·refine ⟨ms,by omega,by omega,?_⟩
    conv=>lhs;rw [cU]
    simp only [aB (show (i:Int)<len l by unfold len;omega),ao (show (0:Int)<=i by omega),zac,zab,e0,hx,zaa,w1,w2,aR (show c+1<=ms by omega)];cases m2<;>rfl
  obtain ⟨ms2,IH1,a1,a2⟩:=ih1 (c+1) ms1 (eE m2::(r++post)) (i+1) (n+r.length+1) (by omega) hm1 (by omega) hm2 hd1 (by omega);have s2:cU (n+r.length+1) l (c+1) ms2 ((i+1+w.length:Nat):Int)=cU (n+r.length) l c ms2 ((i+1+w.length+1:Nat):Int):=by
   conv=>lhs;rw [cU]
   simp only [aB (show ((i+1+w.length:Nat):Int)<len l by unfold len;omega),ao (show (0:Int)<=((i+1+w.length:Nat):Int) by omega),zac,zab,e2,hx2,zaa,w3,w4,aR (show c<=ms2 by omega)];cases m2<;>rfl
  obtain ⟨ms3,IH2,a3,a4⟩:=ih2 c ms2 post (i+1+w.length+1) n h0 (by omega) hd a2 hd3 (by omega);refine ⟨ms3,?_,a3,a4⟩;rw [show n+(w.length+(r.length+1)+1)=n+r.length+1+w.length+1 by omega,s1,IH1,s2,IH2];rw [show i+1+w.length+1+r.length=i+(w.length+(r.length+1)+1) by omega]
theorem H7 (l:List cV) (hl:l.length<900000000) {F b:Bool} {r:List cV} (h:sC F b r):∀ (ms:Int) (i n:Nat),0<=ms->ms<=200->l.drop i=r->i<=l.length->r.length+1<=n->∃ ms',cU n l 0 ms (i:Int)=some ((ms',()),())/\ms'<=200:=by
 induction h with
 |nil=>
  intro ms i n _ h2 hr hi hn;obtain ⟨n,rfl⟩:∃ k,n=k+1:=⟨n - 1,by omega⟩;have hlen:l.length<=i:=by simpa using hr
  exact ⟨ms,by simp only [cU,aR (show len l<=(i:Int) by unfold len;omega),zab],h2⟩
 |@cons b fl w r _ h2 _ ih=>
  intro ms i n h0 hms hr hi hn;have hlen:l.length=i+(w.length+(r.length+1)+1):=by
   have:=congrArg List.length hr;simp at this;omega
  simp only [zad,zaf] at hn;obtain ⟨n,rfl⟩:∃ k,n=k+1+w.length+1:=⟨n - 2 - w.length,by omega⟩;have e0:(Int.toNat (i:Int))=i:=rfl;have hx:l[i]? =some (vI fl):=by have:=aH hr 0;simpa using this
  have w1:zap ((i:Int)+1)=((i+1:Nat):Int):=by rw [af]<;>omega
  have hd1:l.drop (i+1)=w++(ew::r):=by rw [←zal,hr];rfl
  have hd2:l.drop (i+1+w.length)=ew::r:=by rw [←zal,hd1];simp
  have hd3:l.drop (i+1+w.length+1)=r:=by rw [←zal,hd2];rfl
  have hx2:l[i+1+w.length]? =some ew:=by have:=aH hd2 0;simpa using this
  have e2:(Int.toNat ((i+1+w.length:Nat):Int))=i+1+w.length:=rfl;have w4:zap (((i+1+w.length:Nat):Int)+1)=((i+1+w.length+1:Nat):Int):=by rw [af]<;>omega
  have s1:cU (n+1+w.length+1) l 0 ms (i:Int)=cU (n+1+w.length) l 0 ms ((i+1:Nat):Int):=by
   conv=>lhs;rw [cU]
   simp only [aB (show (i:Int)<len l by unfold len;omega),ao (show (0:Int)<=i by omega),zac,zab,e0,hx,zaa,w1,aR h0];rfl
  obtain ⟨ms2,IH1,a1,a2⟩:=Nf l (by omega) h2 0 ms (ew::r) (i+1) (n+1) (by omega) h0 (by omega) hms hd1 (by omega);have s2:cU (n+1) l 0 ms2 ((i+1+w.length:Nat):Int)=cU n l 0 ms2 ((i+1+w.length+1:Nat):Int):=by
   conv=>lhs;rw [cU]
   simp only [aB (show ((i+1+w.length:Nat):Int)<len l by unfold len;omega),ao (show (0:Int)<=((i+1+w.length:Nat):Int) by omega),zac,zab,e2,hx2,zaa,w4,aR a1];rfl
  obtain ⟨ms3,IH2,a3⟩:=ih ms2 (i+1+w.length+1) n a1 a2 hd3 (by omega) (by omega);exact ⟨ms3,by rw [s1,IH1,s2,IH2],a3⟩
theorem Da (l:List cV) (hl:l.length<900000000) {F b:Bool} (h:sC F b l) (n:Nat) (hn:4*l.length+30<=n):∃ k,vz n l=some (k,())/\k<=200:=by
 obtain ⟨ms,h1,h2⟩:=H7 l hl h 0 0 (n+4) (by omega) (by omega) rfl (by omega) (by omega);refine ⟨ms,?_,h2⟩;unfold vz;rw [ph l hl h n hn];simp only [zaa,zag,zab];refine (congrArg (fun z=>Option.bind z _) h1).trans ?_;rfl
end Go.Proofs.YteknbnkjelmfaaaGreatDoor
namespace Go.Proofs.YteknbnkjelmfaaaGreatDoor.V
open Go Go.Iv Go.Gv
abbrev RE:=Bool×(List UInt8×(Int×Int))
def Rb (b:Bool):RE:=(b,([48],(0,0)))
def tl (d:List UInt8):List UInt8:=d.dropWhile (· ==48)
def norm (b:Bool) (d:List UInt8) (e:Int):RE:=
 bif (fE (tl d)).isEmpty then Rb b else (b,(fE (tl d),(e+(len (tl d) - len (fE (tl d))),0)))
theorem kj (l:List UInt8):(l==([]:List UInt8))=l.isEmpty:=by cases l<;>rfl
theorem Pv (d:List UInt8):(tl d).length<=d.length:=(List.dropWhile_suffix (· ==(48:UInt8)) (l:=d)).length_le
theorem V1 {α:Type} (b:Bool) (f:Bool->Option α):(Option.bind (bif b then some Bool.true else some Bool.false) f)=f b:=by cases b<;>rfl
theorem xG (n:Nat) (b:Bool) (d:List UInt8) (e:Int) (h1: -1000000000000<=e) (h2:e<=1000000000000) (hs:d.length<=1000000) (hn:d.length<=n):
  whole n b d e=some (norm b d e,()):=by
 have l1:=Pv d;have l2:=MO (tl d);unfold whole;simp only [V1,kj];cases h:d.isEmpty with
 |true=>
  have:d= []:=by cases d with
   |nil=>rfl
   |cons=>cases h
  subst this;rfl
 |false=>
  simp only [zab];rw [jj n d 48 hn];simp only [zaa]
  show (bif (tl d).isEmpty then _ else _)=_
  change (bif (tl d).isEmpty then (bif (tl d).isEmpty then some (Rb b,()) else some ((b,(tl d,(_,0))),())) else Option.bind (dG n (tl d) 48) _)=_
  cases h3:(tl d).isEmpty with
  |true=>
   have:tl d= []:=by cases h4:tl d with
    |nil=>rfl
    |cons=>rw [h4] at h3;cases h3
   simp only [zac];unfold norm;rw [this];rfl
  |false=>
   simp only [zab];rw [oI n (tl d) (by omega) (by omega)];simp only [zaa];unfold norm;have w1:zap (e+len (tl d))=e+len (tl d):=by unfold len;rw [af]<;>omega
   have w2:zap (e+len (tl d) - len (fE (tl d)))=e+(len (tl d) - len (fE (tl d))):=by unfold len;rw [af]<;>omega
   have hd:List.dropWhile (fun x=>x==48) d=tl d:=rfl;rw [hd,w1,w2];cases (fE (tl d)).isEmpty<;>rfl
theorem RV (s:List UInt8) (x:UInt8) (r:List UInt8) (h:tl s=x::r):(x==48)=false:=by
 induction s with
 |nil=>cases h
 |cons y s ih=>
  unfold tl at h ih;rw [List.dropWhile] at h;cases hy:y==48 with
  |true=>rw [hy] at h;exact ih h
  |false=>
   rw [hy] at h;injection h with h1 h2
   rw [←h1];exact hy
theorem Jx (x:UInt8) (r:List UInt8) (h:(x==48)=false):(fE (x::r)).isEmpty=false:=by
 unfold fE;rw [List.reverse_cons,List.dropWhile_append];cases h2:(r.reverse.dropWhile (· ==48)).isEmpty with
 |true=>
  rw [if_pos rfl];simp only [List.dropWhile,h];rfl
 |false=>
  rw [if_neg (by decide)];simp
end Go.Proofs.YteknbnkjelmfaaaGreatDoor.V
namespace Go.Proofs.YteknbnkjelmfaaaGreatDoor.V
open Go Go.Iv Go.Gv
def hv (c:UInt8):Int:=if 48<=ub c/\ub c<=57 then ub c - 48 else if 97<=ub c/\ub c<=102 then ub c - 87 else if 65<=ub c/\ub c<=70 then ub c - 55 else -1
theorem iD (n:Nat) (c:UInt8):hex n (zap (ub c))=some (hv c,()):=by
 have hb:=iz c;rw [dK];unfold hex hv;generalize ub c=x at*;have e:(bif au 48 x then some (au x 57) else some false)=some (decide (48<=x/\x<=57)):=by
  rw [dc,dc];by_cases h1:48<=x<;>by_cases h2:x<=57<;>simp [h1,h2]
 have e2:(bif au 97 x then some (au x 102) else some false)=some (decide (97<=x/\x<=102)):=by
  rw [dc,dc];by_cases h1:97<=x<;>by_cases h2:x<=102<;>simp [h1,h2]
 have e3:(bif au 65 x then some (au x 70) else some false)=some (decide (65<=x/\x<=70)):=by
  rw [dc,dc];by_cases h1:65<=x<;>by_cases h2:x<=70<;>simp [h1,h2]
 rw [e,e2,e3];have w1:zap (x - 48)=x - 48:=by rw [af]<;>omega
 have w2:zap (zap (x - 97)+10)=x - 87:=by rw [af (x:=x - 97),af]<;>omega
 have w3:zap (zap (x - 65)+10)=x - 55:=by rw [af (x:=x - 65),af]<;>omega
 rw [w1,w2,w3];by_cases h1:48<=x/\x<=57
 ·rw [if_pos h1,decide_eq_true h1];rfl
 by_cases h2:97<=x/\x<=102
 ·rw [if_neg h1,decide_eq_false h1,if_pos h2,decide_eq_true h2];rfl
 by_cases h3:65<=x/\x<=70
 ·rw [if_neg h1,decide_eq_false h1,if_neg h2,decide_eq_false h2,if_pos h3,decide_eq_true h3];rfl
 rw [if_neg h1,decide_eq_false h1,if_neg h2,decide_eq_false h2,if_neg h3,decide_eq_false h3];rfl
theorem sj (n:Nat) (c:UInt8):Ra n (zap (ub c))=some (hv c,()):=iD n c
theorem Uw (c:UInt8):(0<=hv c/\hv c<10)↔E5 c=true:=by
 have e:E5 c=true↔(48<=ub c/\ub c<=57):=by
  unfold E5 ub;rw [zae,Nat.ble_eq,Nat.ble_eq];omega
 rw [e];unfold hv;split
 ·omega
 split
 ·omega
 split<;>omega
theorem Wz (c:UInt8) (h:E5 c=true):hv c=ub c - 48:=by
 have e:(48<=ub c/\ub c<=57):=by
  unfold E5 at h;unfold ub;rw [zae,Nat.ble_eq,Nat.ble_eq] at h;omega
 unfold hv;rw [if_pos e]
def Dg (l:List Int):Prop:=∀ x,x∈l->0<=x/\x<=9
theorem Dg.nil:Dg []:=fun x h=>by cases h
theorem Dg.head {x:Int} {r:List Int} (h:Dg (x::r)):0<=x/\x<=9:=h x (.head _)
theorem Dg.tail {x:Int} {r:List Int} (h:Dg (x::r)):Dg r:=fun y hy=>h y (.tail _ hy)
theorem Dg.cons {x:Int} {r:List Int} (h1:0<=x/\x<=9) (h:Dg r):Dg (x::r):=fun y hy=>by
 cases hy with
 |head=>exact h1
 |tail _ hy=>exact h y hy
theorem Dg.app {a b:List Int} (h1:Dg a) (h2:Dg b):Dg (a++b):=fun y hy=>by
 rcases List.mem_append.1 hy with h |h
 ·exact h1 y h
 ·exact h2 y h
theorem Dg.drop {a:List Int} (h:Dg a) (i:Nat):Dg (a.drop i):=fun y hy=>h y (List.mem_of_mem_drop hy)
def uF (k:Int):List Int->Int->List Int×Int
 | [],m=>([],m)
 |x::r,m=>(((m+x*k)%10)::(uF k r ((m+x*k) / 10)).1,(uF k r ((m+x*k) / 10)).2)
def carry (m:Int):List Int:=if m=0 then [] else if m<10 then [m%10] else [m%10,m / 10%10]
def mul (k:Int) (l:List Int) (m:Int):List Int:=(uF k l m).1++carry (uF k l m).2
theorem KR {x k:Int} (h1:0<=x/\x<=9) (h2:0<=k/\k<=16):0<=x*k/\x*k<=144:=by
 refine ⟨Int.mul_nonneg h1.1 h2.1,?_⟩;have:=Int.mul_le_mul h1.2 h2.2 h2.1 (by omega);omega
theorem JW (k:Int) (hk:0<=k/\k<=16):∀ (l:List Int) (m:Int),Dg l->0<=m/\m<=15->Dg (uF k l m).1/\(0<=(uF k l m).2/\(uF k l m).2<=15)/\(uF k l m).1.length=l.length
 | [],m,_,hm=>⟨Dg.nil,hm,rfl⟩
 |x::r,m,hl,hm=>by
  have hp:=KR hl.head hk;obtain ⟨i1,i2,i3⟩:=JW k hk r ((m+x*k) / 10) hl.tail (by omega);exact ⟨Dg.cons (by omega) i1,i2,by simp only [uF,zad,i3]⟩
theorem Og (m:Int) (hm:0<=m/\m<=15):Dg (carry m)/\(carry m).length<=2:=by
 unfold carry;split
 ·exact ⟨Dg.nil,by simp⟩
 split
 ·exact ⟨Dg.cons (by omega) Dg.nil,by simp⟩
 ·exact ⟨Dg.cons (by omega) (Dg.cons (by omega) Dg.nil),by simp⟩
theorem Qi (k:Int) (hk:0<=k/\k<=16) (l:List Int) (m:Int) (hl:Dg l) (hm:0<=m/\m<=15):Dg (mul k l m)/\(mul k l m).length<=l.length+2:=by
 obtain ⟨i1,i2,i3⟩:=JW k hk l m hl hm;obtain ⟨c1,c2⟩:=Og _ i2;refine ⟨i1.app c1,?_⟩;unfold mul;rw [zaf];omega
theorem UX (k:Int) (l:List Int) (m:Int) (hm:0<=m/\m<=15) (hs:l.length<=90000) (acc:List Int) (ha:acc.length<=100000) (i:Nat) (hi:l.length<=i) (hi2:i<=100000) (n:Nat) (hn:3<=n):
  gA n l k m acc (i:Int)=some ((acc++carry m,()),()):=by
 have st:∀ (m:Int) (acc:List Int) (i n:Nat),0<m->m<=15->acc.length<=100005->l.length<=i->i<=100005->gA (n+1) l k m acc (i:Int)=gA n l k (m / 10) (acc++ [m%10]) ((i+1:Nat):Int):=fun m acc i n h1 h2 ha hi hi2=>by
  have w:zap ((i:Int)+1)=((i+1:Nat):Int):=by rw [af]<;>omega
  have w0:zap (m+zap (0*k))=m:=by rw [Int.zero_mul,af (x:=0),af]<;>omega
  have w1:zap (Int.tdiv m 10)=m / 10:=by rw [Int.tdiv_eq_ediv_of_nonneg (by omega),af]<;>omega
  simp only [gA,len,aR (show ((l.length:Nat):Int)<=(i:Int) by omega),aB h1,zac,zab,zaa,w0,List.length_singleton,zad,zah,bQ (show (acc.length+(0+1))*9<=1000000 by omega),w,w1,Int.tmod_eq_emod_of_nonneg (show 0<=m by omega)]
 have fin:∀ (acc:List Int) (i n:Nat),l.length<=i->gA (n+1) l k 0 acc (i:Int)=some ((acc,()),()):=fun acc i n hi=>by
  simp only [gA,len,aR (show ((l.length:Nat):Int)<=(i:Int) by omega),aR (Int.le_refl 0),zab,zaa]
 obtain ⟨n,rfl⟩:∃ k,n=k+3:=⟨n - 3,by omega⟩;unfold carry;by_cases h0:m=0
 ·subst h0
  rw [if_pos rfl,fin _ _ _ hi,List.append_nil]
 rw [if_neg h0,st m acc i (n+2) (by omega) (by omega) (by omega) hi (by omega)];by_cases h1:m<10
 ·rw [if_pos h1,show m / 10=0 by omega,fin _ _ _ (by omega)]
 ·rw [if_neg h1,st (m / 10) _ (i+1) (n+1) (by omega) (by omega) (by simp;omega) (by omega) (by omega),show m / 10 / 10=0 by omega,fin _ _ _ (by omega),List.append_assoc]
  rfl
theorem M3 (k:Int) (hk:0<=k/\k<=16) (l:List Int) (hl:Dg l) (hs:l.length<=90000):∀ (d i n:Nat) (m:Int) (acc:List Int),i+d=l.length->acc.length=i->0<=m/\m<=15->d+3<=n->
  gA n l k m acc (i:Int)=some ((acc++((uF k (l.drop i) m).1++carry (uF k (l.drop i) m).2),()),()):=by
 intro d
 induction d with
 |zero=>
  intro i n m acc h ha hm hn;rw [List.drop_eq_nil_of_le (show l.length<=i by omega)];exact UX k l m hm hs acc (by omega) i (by omega) (by omega) n (by omega)
 |succ d ih=>
  intro i n m acc h ha hm hn;obtain ⟨n,rfl⟩:∃ k,n=k+1:=⟨n - 1,by omega⟩;have hi:i<l.length:=by omega
  have w:zap ((i:Int)+1)=((i+1:Nat):Int):=by rw [af]<;>omega
  have hp:=KR (hl _ (List.getElem_mem hi)) hk;have w1:zap (l[i]*k)=l[i]*k:=by rw [af]<;>omega
  have w2:zap (m+l[i]*k)=m+l[i]*k:=by rw [af]<;>omega
  have w3:zap ((m+l[i]*k) / 10)=(m+l[i]*k) / 10:=by rw [af]<;>omega
  have q0:0<=m+l[i]*k:=by omega
  rw [List.drop_eq_getElem_cons hi]
  simp only [gA,len,aB (show (i:Int)<((l.length:Nat):Int) by omega),ao (show (0:Int)<=(i:Int) by omega),zac,Int.toNat_natCast,zan hi,zaa,w,w1,w2,
   Int.tdiv_eq_ediv_of_nonneg q0,Int.tmod_eq_emod_of_nonneg q0,w3,List.length_singleton,zad,zah,bQ (show (acc.length+(0+1))*9<=1000000 by omega),uF]
  rw [ih (i+1) n _ _ (by omega) (by simp;omega) (by omega) (by omega),List.append_assoc];rfl
theorem IM (n:Nat) (l:List Int) (k m:Int) (hk:0<=k/\k<=16) (hl:Dg l) (hm:0<=m/\m<=15) (hs:l.length<=90000) (hn:l.length+3<=n):
  times n l k m=some (mul k l m,()):=by
 unfold times;have:=M3 k hk l hl hs l.length 0 n m [] (by omega) rfl hm (by omega);rw [List.drop_zero,List.nil_append] at this;rw [show (0:Int)=((0:Nat):Int) from rfl,this];rfl
end Go.Proofs.YteknbnkjelmfaaaGreatDoor.V
namespace Go.Proofs.YteknbnkjelmfaaaGreatDoor.V
open Go Go.Iv Go.Gv
def ch (x:Int):UInt8:=UInt8.ofNat (Int.toNat (IntKind.wrap .u8 (zap (48+x))))
theorem Gj {α:Type} (l:List α) (i:Nat) (h:i<l.length):(l.take (i+1)).reverse=l[i]::(l.take i).reverse:=by
 rw [List.take_succ_eq_append_getElem h,List.reverse_append];rfl
def tx (l:List Int):List UInt8:=bif (tl (l.reverse.map ch)).isEmpty then [48] else tl (l.reverse.map ch)
theorem L5 (l:List Int) (hs:l.length<=100000):∀ (i n:Nat) (acc:List UInt8),i<=l.length->acc.length+i<=100000->i+1<=n->
  si n l ((i:Int) - 1) acc=some (((),()),(((),(acc++(l.take i).reverse.map ch,())),())):=by
 intro i
 induction i with
 |zero=>
  intro n acc h ha hn;obtain ⟨n,rfl⟩:∃ k,n=k+1:=⟨n - 1,by omega⟩;simp only [si,kZ (show ((0:Nat):Int) - 1<0 by omega),zab,List.take_zero,List.reverse_nil,List.map_nil,List.append_nil]
 |succ i ih=>
  intro n acc h ha hn;obtain ⟨n,rfl⟩:∃ k,n=k+1:=⟨n - 1,by omega⟩;have e:((i+1:Nat):Int) - 1=(i:Int):=by omega
  have w:zap ((i:Int) - 1)=(i:Int) - 1:=by rw [af]<;>omega
  rw [e,Gj l i (by omega)];simp only [si,ao (show (0:Int)<=(i:Int) by omega),zac,Int.toNat_natCast,zan (show i<l.length by omega),zaa,w,List.length_singleton,zad,zah,bQ (show (acc.length+(0+1))*2<=1000000 by omega)];rw [ih n _ (by omega) (by simp;omega) (by omega),List.map_cons,List.append_assoc];rfl
theorem isEmpty_eq {α:Type} {l:List α} (h:l.isEmpty=true):l= []:=by
 cases l with
 |nil=>rfl
 |cons=>cases h
theorem BJ (n:Nat) (l:List Int) (hs:l.length<=90000) (hn:l.length+1<=n):text n l=some (tx l,()):=by
 unfold text;rcases last_cases l with rfl |⟨r,x,rfl⟩
 ·rfl
 have hl:(r++ [x]).length=r.length+1:=by simp
 have hg:(r++ [x])[r.length]? =some x:=by simp
 rw [hl] at hs hn;have w:zap (((r.length+1:Nat):Int) - 1)=(r.length:Int):=by rw [af]<;>omega
 have w2:zap ((r.length:Int) - 1)=(r.length:Int) - 1:=by rw [af]<;>omega
 simp only [len,hl,w,w2,ao (show (0:Int)<=(r.length:Int) by omega),zac,Int.toNat_natCast,hg,zaa];rw [L5 (r++ [x]) (by omega) r.length n _ (by omega) (by simp;omega) (by omega)];have e:List.take r.length (r++ [x])=r:=by simp
 rw [e];have e2:(UInt8.ofNat (Int.toNat (IntKind.wrap IntKind.u8 (zap ((48:Int)+x)))))::([]:List UInt8)++(r.reverse.map ch)=((r++ [x]).reverse).map ch:=by
  rw [List.reverse_append];rfl
 rw [e2];unfold tx;have hlen:(((r++ [x]).reverse).map ch).length=r.length+1:=by simp
 generalize ((r++ [x]).reverse).map ch=c at*;have hc:c.isEmpty=false:=by
  cases c with
  |nil=>simp at hlen
  |cons=>rfl
 have hc2:List.take c.length c=c:=List.take_length;have hb:(c==([]:List UInt8))=false:=by rw [kj];exact hc
 simp only [zaa,hc,zab,ao (Int.le_refl _),ao (show ((c.length:Nat):Int)<=1099511627776 by omega),zai,zac,Int.toNat_natCast,hc2,hb];rw [jj n c 48 (by omega)];simp only [zaa]
 show (bif !(tl c==([]:List UInt8)) then some (tl c,()) else some ([48],()))=some (bif (tl c).isEmpty then [48] else tl c,())
 rw [kj];cases (tl c).isEmpty<;>rfl
end Go.Proofs.YteknbnkjelmfaaaGreatDoor.V
namespace Go.Proofs.YteknbnkjelmfaaaGreatDoor.V
open Go Go.Iv Go.Gv
def OP (base:Int) (c:UInt8):Bool:=decide (0<=hv c/\hv c<base)
theorem Io (base:Int) (c:UInt8):(bif aX (hv c) 0 then some true else some (au base (hv c)))=some (!OP base c):=by
 unfold OP;by_cases h1:hv c<0
 ·rw [aB h1,decide_eq_false (by omega)];rfl
 ·rw [aR (by omega),zab]
  by_cases h2:base<=hv c
  ·rw [ao h2,decide_eq_false (by omega)];rfl
  ·rw [kZ (by omega),decide_eq_true (by omega)];rfl
theorem Rk {base:Int} (hb:base<=16) {c:UInt8} (h:OP base c=true):0<=hv c/\hv c<=15:=by
 have:=of_decide_eq_true h;omega
theorem Tk (c:UInt8):OP 10 c=E5 c:=by
 have h:=Uw c;unfold OP;cases hd:E5 c with
 |true=>exact decide_eq_true (h.2 hd)
 |false=>
  apply decide_eq_false;intro h2;have:=h.1 h2;rw [hd] at this;cases this
def fold (k:Int):List Int->List UInt8->List Int
 |l,[]=>l
 |l,c::r=>fold k (mul k l (hv c)) r
def nd (base:Int):List UInt8->Bool
 | []=>true
 |c::r=>OP base c &&nd base r
theorem Gi {base:Int}:∀ {s:List UInt8},nd base s=true->∀ c,c∈s->OP base c=true
 | [],_,c,h=>by cases h
 |x::r,h,c,hc=>by
  simp only [nd,zae] at h;cases hc with
  |head=>exact h.1
  |tail _ hc=>exact Gi h.2 c hc
theorem Ct (k:Int) (hk:0<=k/\k<=16):∀ (s:List UInt8) (l:List Int),Dg l->nd k s=true->Dg (fold k l s)/\(fold k l s).length<=l.length+2*s.length
 | [],l,hl,_=>⟨hl,by simp [fold]⟩
 |c::r,l,hl,h=>by
  simp only [nd,zae] at h;obtain ⟨m1,m2⟩:=Qi k hk l (hv c) hl (Rk hk.2 h.1);obtain ⟨f1,f2⟩:=Ct k hk r _ m1 h.2;exact ⟨f1,by simp only [fold,zad];omega⟩
theorem XQ (s b:List UInt8) (l:List Int) (hs:b.length<=100000):∀ (d i n:Nat),i+d=b.length->d+1<=n->
  jw n s 10 l b (len b) (i:Int)=some (bif nd 10 (b.drop i) then .inl ((s,(10,(l,()))),()) else .inr (([],(false,())),())):=by
 intro d
 induction d with
 |zero=>
  intro i n h hn;obtain ⟨n,rfl⟩:∃ k,n=k+1:=⟨n - 1,by omega⟩;simp only [jw,len,aR (show ((b.length:Nat):Int)<=(i:Int) by omega),zab,List.drop_eq_nil_of_le (show b.length<=i by omega)];rfl
 |succ d ih=>
  intro i n h hn;obtain ⟨n,rfl⟩:∃ k,n=k+1:=⟨n - 1,by omega⟩;have hi:i<b.length:=by omega
  have w:zap ((i:Int)+1)=((i+1:Nat):Int):=by rw [af]<;>omega
  have e10:((10:Int) !=10)=false:=by decide
  have ih:=ih (i+1) n (by omega) (by omega);rw [List.drop_eq_getElem_cons hi];unfold len at ih ⊢;simp only [jw,aB (show (i:Int)<((b.length:Nat):Int) by omega),ao (show (0:Int)<=(i:Int) by omega),zac,Int.toNat_natCast,zan hi,zaa,w,iD,Io,e10,zab,nd,ih];cases OP 10 b[i]<;>rfl
theorem Yw (k:Int) (hk:0<=k/\k<=16) (hk2:(k !=10)=true) (s b:List UInt8) (hs:b.length<=27000):∀ (d i n:Nat) (l:List Int),i+d=b.length->Dg l->l.length+2*d<=40000->3*d+l.length+4<=n->
  jw n s k l b (len b) (i:Int)=some (bif nd k (b.drop i) then .inl ((s,(k,(fold k l (b.drop i),()))),()) else .inr (([],(false,())),())):=by
 intro d
 induction d with
 |zero=>
  intro i n l h hl hb hn;obtain ⟨n,rfl⟩:∃ k,n=k+1:=⟨n - 1,by omega⟩;simp only [jw,len,aR (show ((b.length:Nat):Int)<=(i:Int) by omega),zab,List.drop_eq_nil_of_le (show b.length<=i by omega)];rfl
 |succ d ih=>
  intro i n l h hl hb hn;obtain ⟨n,rfl⟩:∃ k,n=k+1:=⟨n - 1,by omega⟩;have hi:i<b.length:=by omega
  have w:zap ((i:Int)+1)=((i+1:Nat):Int):=by rw [af]<;>omega
  have ih:=ih (i+1) n;rw [List.drop_eq_getElem_cons hi];unfold len at ih ⊢;simp only [jw,aB (show (i:Int)<((b.length:Nat):Int) by omega),ao (show (0:Int)<=(i:Int) by omega),zac,Int.toNat_natCast,zan hi,zaa,w,iD,Io,hk2,nd];cases ho:OP k b[i] with
  |false=>rfl
  |true=>
   have hm:=Rk hk.2 ho;obtain ⟨m1,m2⟩:=Qi k hk l (hv b[i]) hl hm;simp only [zag,zab];rw [IM (n+1) l k (hv b[i]) hk hl hm (by omega) (by omega)];simp only [zaa];rw [ih (mul k l (hv b[i])) (by omega) m1 (by omega) (by omega)];rfl
theorem SI (s:List UInt8) (hs:s.length<=100000) (ha:nd 10 s=true):∀ (i n:Nat) (acc:List Int),i<=s.length->acc.length+i<=100000->i+1<=n->
  rY n s acc ((i:Int) - 1)=some (.inl ((acc++(s.take i).reverse.map hv,()),())):=by
 intro i
 induction i with
 |zero=>
  intro n acc h hl hn;obtain ⟨n,rfl⟩:∃ k,n=k+1:=⟨n - 1,by omega⟩;simp only [rY,kZ (show ((0:Nat):Int) - 1<0 by omega),zab,List.take_zero,List.reverse_nil,List.map_nil,List.append_nil]
 |succ i ih=>
  intro n acc h hl hn;obtain ⟨n,rfl⟩:∃ k,n=k+1:=⟨n - 1,by omega⟩;have hi:i<s.length:=by omega
  have e:((i+1:Nat):Int) - 1=(i:Int):=by omega
  have w:zap ((i:Int) - 1)=(i:Int) - 1:=by rw [af]<;>omega
  have hd:=Gi ha s[i] (List.getElem_mem hi);have hu:=Wz s[i] (by rw [←Tk];exact hd);have hb:=iz s[i];have w2:zap (zap (ub s[i]) - 48)=hv s[i]:=by rw [dK,hu,af]<;>omega
  rw [e,Gj s i hi];simp only [rY,ao (show (0:Int)<=(i:Int) by omega),zac,Int.toNat_natCast,zan hi,zaa,w,w2,Io,hd,zag,zab,List.length_singleton,zad,zah,bQ (show (acc.length+(0+1))*9<=1000000 by omega)];rw [ih n _ (by omega) (by simp;omega) (by omega),List.map_cons,List.append_assoc];rfl
theorem TI (n:Nat) (s:List UInt8) (hs:s.length<=5000) (ha:nd 10 s=true) (hn:s.length<=n):of n s=some (s.reverse.map hv,()):=by
 unfold of len;have w:zap ((s.length:Int) - 1)=(s.length:Int) - 1:=by rw [af]<;>omega
 rw [aR (show ((s.length:Nat):Int)<=5000 by omega),w,SI s (by omega) ha s.length (n+1) [] (zam _) (by simp;omega) (by omega),List.take_length];rfl
def pl (base:Int) (s:List UInt8):List UInt8×(Bool×Unit):=
 bif s.isEmpty ||(aX 5000 (len s) || !nd base s) then ([],(false,())) else (tx (bif base==10 then s.reverse.map hv else fold base [] s),(true,()))
theorem bad (s:List UInt8) (base:Int) (hb:base=8∨base=10∨base=16):(bif (s==([]:List UInt8)) then
   some Bool.true
  else
  bif (Go.Iv.aX (5000:Int) (len s)) then
   some Bool.true
  else
  bif (base !=(8:Int)) then
   bif (base !=(10:Int)) then
    some (base !=(16:Int))
   else
   some Bool.false
  else
  some Bool.false)=some (s.isEmpty ||aX 5000 (len s)):=by
 rw [kj];rcases hb with rfl |rfl |rfl<;>cases s.isEmpty<;>cases aX 5000 (len s)<;>rfl
theorem oh (n:Nat) (s:List UInt8) (base:Int) (hb:base=8∨base=10∨base=16) (hn:27000<=n):plain n s base=some (pl base s):=by
 have hk:0<=base/\base<=16:=by omega
 unfold plain pl;rw [bad s base hb];cases he:s.isEmpty with
 |true=>rfl
 |false=>
  by_cases hl:s.length<=5000
  ·rw [aR (show len s<=5000 by unfold len;omega)]
   simp only [Bool.false_or,zaa,zab];by_cases h10:base=10
   ·subst h10
    have:=XQ s s [] (by omega) s.length 0 (n+2) (by omega) (by omega);rw [List.drop_zero] at this;rw [show (0:Int)=((0:Nat):Int) from rfl,this];cases ha:nd 10 s with
    |false=>rfl
    |true=>
     have e10:((10:Int)==10)=true:=by decide
     simp only [zaa,zac,zag,zab,e10];rw [TI (n+2) s hl ha (by omega)];simp only [zaa];rw [BJ n _ (by simp;omega) (by simp;omega)];rfl
   ·have e10:(base==10)=false:=beq_eq_false_iff_ne.2 h10
    have:=Yw base hk (by rw [bne,e10];rfl) s s (by omega) s.length 0 (n+2) [] (by omega) Dg.nil (by simp;omega) (by simp;omega);rw [List.drop_zero] at this;rw [show (0:Int)=((0:Nat):Int) from rfl,this];cases ha:nd base s with
    |false=>rfl
    |true=>
     obtain ⟨f1,f2⟩:=Ct base hk s [] Dg.nil ha;rw [zah] at f2;simp only [zaa,zac,zag,zab,e10];rw [BJ n _ (by omega) (by omega)];rfl
  ·rw [aB (show 5000<len s by unfold len;omega)]
   rfl
end Go.Proofs.YteknbnkjelmfaaaGreatDoor.V
namespace Go.Proofs.YteknbnkjelmfaaaGreatDoor.V
open Go Go.Iv Go.Gv
theorem TJ (l:List Int):tx l= [48]∨∃ x r,tx l=x::r/\(x==48)=false:=by
 unfold tx;cases h:tl (l.reverse.map ch) with
 |nil=>exact .inl rfl
 |cons x r=>exact .inr ⟨x,r,rfl,RV _ x r h⟩
theorem R1 (base:Int) (t:List UInt8) (h:(pl base t).2.1=true):(pl base t).1= [48]∨∃ x r,(pl base t).1=x::r/\(x==48)=false:=by
 unfold pl at h ⊢;cases hb:(t.isEmpty ||(aX 5000 (len t) || !nd base t)) with
 |true=>rw [hb] at h;cases h
 |false=>exact TJ _
theorem U7 (l:List Int):(tx l).length<=l.length+1:=by
 unfold tx;have:=Pv (l.reverse.map ch);rw [List.length_map,List.length_reverse] at this;cases (tl (l.reverse.map ch)).isEmpty with
 |true=>simp
 |false=>simp only [zab];omega
theorem UE (base:Int) (hk:0<=base/\base<=16) (t:List UInt8):(pl base t).1.length<=10001:=by
 unfold pl;cases hb:(t.isEmpty ||(aX 5000 (len t) || !nd base t)) with
 |true=>simp
 |false=>
  simp only [Bool.or_eq_false_iff,Bool.not_eq_false'] at hb;obtain ⟨_,h2,h3⟩:=hb;rw [eO] at h2;have h2:=of_decide_eq_false h2;unfold len at h2;simp only [zab];refine Nat.le_trans (U7 _) ?_;cases base==10 with
  |true=>simp only [zac,List.length_map,List.length_reverse];omega
  |false=>
   have:=(Ct base hk t [] Dg.nil h3).2;simp only [zab,zah] at this ⊢;omega
def no:RE×(Bool×Unit):=((false,([],(0,0))),(false,()))
def fin (b:Bool) (p:List UInt8×(Bool×Unit)):RE×(Bool×Unit):=
 bif p.2.1 then (norm (b && !(p.1== [48])) p.1 0,(true,())) else no
theorem V5 (x:UInt8) (r:List UInt8) (h:(x==48)=false):tl (x::r)=x::r:=by
 unfold tl;rw [List.dropWhile,h]
theorem QR (x:UInt8) (r:List UInt8) (h:(x==48)=false):∃ q,fE (x::r)=x::q:=by
 have hn:=Jx x r h;have hp:fE (x::r)<+:x::r:=by
  have:=(List.dropWhile_suffix (· ==(48:UInt8)) (l:=(x::r).reverse));have:=List.reverse_prefix.2 this;rw [List.reverse_reverse] at this;exact this
 obtain ⟨q,hq⟩:=hp;cases ht:fE (x::r) with
 |nil=>rw [ht] at hn;cases hn
 |cons y z=>
  rw [ht] at hq;injection hq with h1 h2
  exact ⟨z,by rw [h1]⟩
theorem xW (n:Nat) (b:Bool) (base:Int) (hb:0<=base/\base<=16) (t:List UInt8) (hn:27000<=n):
  (bif !(pl base t).2.1 then some no else
   Option.bind (whole (n+1) b (pl base t).1 0) fun y8=>
   bif y8.1.1 then
    some (((!(y8.1.2.1==([48]:List UInt8))),(y8.1.2.1,(y8.1.2.2.1,y8.1.2.2.2))),Bool.true,())
   else
   some ((Bool.false,(y8.1.2.1,(y8.1.2.2.1,y8.1.2.2.2))),Bool.true,()))=some (fin b (pl base t)):=by
 have hl:=UE base hb t;rw [xG (n+1) b _ 0 (by omega) (by omega) (by omega) (by omega)];unfold fin;cases h:(pl base t).2.1 with
 |false=>rfl
 |true=>
  simp only [zag,zab,zac,zaa];rcases R1 base t h with hf |⟨x,r,hf,hx⟩
  ·rw [hf];cases b<;>rfl
  ·obtain ⟨q,hq⟩:=QR x r hx
   have e1:((x::r)==([48]:List UInt8))=false:=by show ((x==48) &&_)=false;rw [hx];rfl
   have e2:((x::q)==([48]:List UInt8))=false:=by show ((x==48) &&_)=false;rw [hx];rfl
   rw [hf,e1];unfold norm;rw [V5 x r hx,hq];simp only [List.isEmpty_cons,zab,e2,Bool.not_false,Bool.and_true];cases b<;>rfl
def iv (s:List UInt8):RE×(Bool×Unit):=
 bif pre [48,111] s then fin false (pl 8 (s.drop 2)) else bif pre [48,120] s then fin false (pl 16 (s.drop 2)) else fin (oP s).2 (pl 10 (oP s).1)
theorem Rl (n:Nat) (s:List UInt8) (hn:27000<=n):int n s=some (iv s):=by
 unfold int iv;rw [lD,lD,jk];simp only [zaa];cases h1:pre [48,111] s with
 |true=>
  simp only [zac];rw [oh n _ 8 (by omega) hn];exact xW n false 8 (by omega) (s.drop 2) hn
 |false=>
  simp only [zab];cases h2:pre [48,120] s with
  |true=>
   simp only [zac];rw [oh n _ 16 (by omega) hn];exact xW n false 16 (by omega) (s.drop 2) hn
  |false=>
   simp only [zab];rw [oh n _ 10 (by omega) hn];exact xW n (oP s).2 10 (by omega) (oP s).1 hn
end Go.Proofs.YteknbnkjelmfaaaGreatDoor.V
namespace Go.Proofs.YteknbnkjelmfaaaGreatDoor.V
open Go Go.Iv Go.Gv
set_option maxRecDepth 27000
def vf:Int->List UInt8->Int
 |a,[]=>a
 |a,c::r=>vf (a*10+(ub c - 48)) r
def Ai:List UInt8->Bool
 | []=>true
 |c::r=>E5 c &&Ai r
theorem Dv:∀ (d:List UInt8),((run d).length=d.length)↔Ai d=true
 | []=>⟨fun _=>rfl,fun _=>rfl⟩
 |c::r=>by
  have ih:=Dv r;unfold run at ih ⊢;simp only [List.takeWhile,Ai];cases E5 c with
  |false=>simp
  |true=>simp only [zad,zak,←ih];omega
theorem B5 (c:UInt8) (h:E5 c=true):48<=ub c/\ub c<=57:=by
 unfold E5 at h;unfold ub;rw [zae,Nat.ble_eq,Nat.ble_eq] at h;omega
theorem vQ:∀ (d:List UInt8),Ai d=true->∀ (i:Nat) (h:i<d.length),E5 d[i]=true
 | [],_,i,h=>by simp at h
 |c::r,ha,i,h=>by
  simp only [Ai,zae] at ha;cases i with
  |zero=>exact ha.1
  |succ i=>exact vQ r ha.2 i (by simpa using h)
theorem Un (c:UInt8) (h:E5 c=true):ub (c - 48)=ub c - 48:=by
 have hb:=B5 c h;unfold ub at hb ⊢;have e:(48:UInt8)<=c:=by rw [UInt8.le_iff_toNat_le];show 48<=c.toNat;omega
 rw [UInt8.toNat_sub_of_le _ _ e]
 show ((c.toNat - 48:Nat):Int)=(c.toNat:Int) - 48
 omega
theorem Wp (i:Nat) (h:i<=8):(10:Int)^i<=100000000/\(1:Int)<=10^i/\(10:Int)^(i+1)=10^i*10:=by
 refine ⟨?_,?_,Int.pow_succ ..⟩
 ·have:=Nat.pow_le_pow_right (show 0<10 by decide) h
  have e:((10^i:Nat):Int)=10^i:=by norm_cast
  rw [←e];omega
 ·have:0<10^i:=Nat.pow_pos (show 0<10 by decide)
  have e:((10^i:Nat):Int)=10^i:=by norm_cast
  rw [←e];omega
theorem Oy (t d:List UInt8) (ha:Ai d=true) (hl:d.length<=9):∀ (m i n:Nat) (a:Int),i+m=d.length->0<=a/\a<10^i->m+1<=n->
  jd n t a d (len d) (i:Int)=some ((t,(vf a (d.drop i),())),()):=by
 intro m
 induction m with
 |zero=>
  intro i n a h hb hn;obtain ⟨n,rfl⟩:∃ k,n=k+1:=⟨n - 1,by omega⟩;simp only [jd,len,aR (show ((d.length:Nat):Int)<=(i:Int) by omega),zab,List.drop_eq_nil_of_le (show d.length<=i by omega),vf]
 |succ m ih=>
  intro i n a h hb hn;obtain ⟨n,rfl⟩:∃ k,n=k+1:=⟨n - 1,by omega⟩;have hi:i<d.length:=by omega
  have hd:=vQ d ha i hi;have hu:=B5 _ hd;obtain ⟨p1,p2,p3⟩:=Wp i (by omega);have w:zap ((i:Int)+1)=((i+1:Nat):Int):=by rw [af]<;>omega
  have w1:zap (zap (a*10)+zap (ub (d[i] - 48)))=a*10+(ub d[i] - 48):=by
   rw [dK,Un _ hd,af (x:=a*10),af]<;>omega
  have q:Nat.blt (UInt8.toNat 9) (UInt8.toNat (d[i] - 48))=false:=by
   have:=Un _ hd;unfold ub at this hu;have e:UInt8.toNat 9=9:=rfl;rw [e];cases hq:Nat.blt 9 (UInt8.toNat (d[i] - 48)) with
   |false=>rfl
   |true=>
    have:=Nat.le_of_ble_eq_true hq;omega
  have ih:=ih (i+1) n (a*10+(ub d[i] - 48)) (by omega) (by rw [p3];omega) (by omega);rw [List.drop_eq_getElem_cons hi];unfold len at ih ⊢;simp only [jd,aB (show (i:Int)<((d.length:Nat):Int) by omega),ao (show (0:Int)<=(i:Int) by omega),zac,Int.toNat_natCast,zan hi,zaa,w,w1,q,zab,vf,ih]
theorem Ev (d:List UInt8):∀ (a:Int) (i:Nat),Ai d=true->i+d.length<=9->0<=a/\a<10^i->0<=vf a d/\vf a d<1000000000:=by
 induction d with
 |nil=>
  intro a i _ h hb;simp only [vf];rw [zah] at h;have:=Nat.pow_le_pow_right (show 0<10 by decide) h;have e:((10^i:Nat):Int)=10^i:=by norm_cast
  rw [←e] at hb;simp only [Nat.add_zero] at this;omega
 |cons c r ih=>
  intro a i ha h hb;simp only [Ai,zae] at ha;rw [zad] at h;have hu:=B5 _ ha.1;obtain ⟨p1,p2,p3⟩:=Wp i (by omega);exact ih _ (i+1) ha.2 (by omega) (by rw [p3];omega)
def Tl (d:List UInt8):Bool:= !d.isEmpty &&(Nat.ble d.length 9 &&Ai d)
def ex:List UInt8->Int×Bool
 | []=>(0,true)
 |c::r=>bif c !=101 &&c !=69 then (0,false) else bif Tl (oP r).1 then (bif (oP r).2 then -(vf 0 (oP r).1) else vf 0 (oP r).1,true) else (0,false)
theorem OJ (s:List UInt8): -1000000000<=(ex s).1/\(ex s).1<=1000000000:=by
 cases s with
 |nil=>simp [ex]
 |cons c r=>
  simp only [ex];cases (c !=101 &&c !=69) with
  |true=>simp
  |false=>
   cases h:Tl (oP r).1 with
   |false=>simp
   |true=>
    unfold Tl at h;rw [zae,zae,Nat.ble_eq] at h;have:=Ev (oP r).1 0 0 h.2.2 (by omega) (by simp);cases (oP r).2<;>simp only [zac,zab]<;>omega
theorem nn (n:Nat) (s:List UInt8) (hs:s.length<=100000) (hn:s.length+20<=n):exponent n s=some ((ex s).1,(ex s).2,()):=by
 cases s with
 |nil=>rfl
 |cons c r=>
  unfold exponent;have e0:((c::r)==([]:List UInt8))=false:=rfl;have e1:(Option.bind ((c::r)[0]?) fun x1=>bif (x1 !=(101:UInt8)) then Option.bind ((c::r)[0]?) fun x2=>some (x2 !=(69:UInt8)) else some Bool.false)=some (c !=101 &&c !=69):=by
   show (bif c !=101 then some (c !=69) else some false)=_
   cases c !=101<;>rfl
  have hsl:=Lr r;rw [e0,zab,e1,zaa];simp only [ex];cases (c !=101 &&c !=69) with
  |true=>rfl
  |false=>
   rw [zab,zab,ao (show (1:Int)<=len (c::r) by simp only [len,zad];omega),zac,iT]
   show Option.bind (signed n r) _=_
   rw [jk,zaa];simp only [zad] at hs hn;generalize hd:(oP r).1=d at*;generalize (oP r).2=b at*;rw [kj];cases he:d.isEmpty with
   |true=>rw [isEmpty_eq he];rfl
   |false=>
    have hpos:0<d.length:=by
     cases d with
     |nil=>cases he
     |cons=>simp
    rw [zab];by_cases h9:9<d.length
    ·have:Tl d=false:=by
      unfold Tl;have:Nat.ble d.length 9=false:=by
       cases hq:Nat.ble d.length 9 with
       |false=>rfl
       |true=>have:=Nat.le_of_ble_eq_true hq;omega
      rw [this];simp
     rw [aB (show 9<len d by unfold len;omega),zac,this];rfl
    rw [aR (show len d<=9 by unfold len;omega),zab,ox (n+2) d (by omega) (by omega),zaa];have h9':Nat.ble d.length 9=true:=Nat.ble_eq_true_of_le (by omega);cases ha:Ai d with
    |false=>
     have h1:¬ ((run d).length=d.length):=fun h=>by
      have:=(Dv d).1 h;rw [ha] at this;cases this
     have h2:(((run d).length:Int) !=len d)=true:=by
      rw [bne_iff_ne];unfold len;omega
     have:Tl d=false:=by unfold Tl;rw [ha];simp
     rw [h2,zac,this];rfl
    |true=>
     have h2:(((run d).length:Int) !=len d)=false:=by
      rw [(Dv d).2 ha];unfold len;simp
     have:Tl d=true:=by unfold Tl;rw [ha,he,h9'];rfl
     rw [h2,zab,this,aB (show 0<len d by unfold len;omega),aB (show len d<19 by unfold len;omega),zac,zaa,zac];have hg:d[0]? =some d[0]:=zan hpos;have hd0:=B5 _ (vQ d ha 0 hpos);have n45:(d[0]==45)=false:=by
      rw [beq_eq_false_iff_ne];intro h;rw [h] at hd0;exact absurd hd0.1 (by decide)
     have n43:(d[0]==43)=false:=by
      rw [beq_eq_false_iff_ne];intro h;rw [h] at hd0;exact absurd hd0.1 (by decide)
     have hv:=Oy d d ha (by omega) d.length 0 (n+2) 0 (by omega) (by simp) (by omega);rw [List.drop_zero] at hv;rw [hg,zaa,n45,zab,zaa,n43,zaa,zab];rw [show jd (n+2) d (0:Int) d (len d) (0:Int)=_ from hv,zaa];simp only [hg,zaa,n45,zab];have hb:=Ev d 0 0 ha (by omega) (by simp);have w:zap ((0:Int) - vf 0 d)= -(vf 0 d):=by rw [af]<;>omega
     rw [w];cases b<;>rfl
end Go.Proofs.YteknbnkjelmfaaaGreatDoor.V
namespace Go.Proofs.YteknbnkjelmfaaaGreatDoor.V
open Go Go.Iv Go.Gv
set_option maxRecDepth 27000
def Ld (s:List UInt8):Bool:=s== [46,110,97,110] ||(s== [46,78,97,78] ||s== [46,78,65,78])
def isInf (s:List UInt8):Bool:=s== [46,105,110,102] ||(s== [46,73,110,102] ||s== [46,73,78,70])
def WL:RE×(Bool×Unit):=((false,([],(0,2))),(true,()))
def Ww (b:Bool):RE×(Bool×Unit):=((b,([],(0,1))),(true,()))
def tail (w p v:List UInt8) (b:Bool):RE×(Bool×Unit):=
 bif !(ex v).2 ||((w.isEmpty &&p.isEmpty) ||aX 5000 (len w+len p)) then no else (norm b (w++p) ((ex v).1 - len p),(true,()))
def num (t:List UInt8) (b:Bool):RE×(Bool×Unit):=
 bif pre [46] (t.drop (run t).length) then tail (run t) (run (t.drop ((run t).length+1))) (t.drop ((run t).length+1+(run (t.drop ((run t).length+1))).length)) b
 else tail (run t) [] (t.drop (run t).length) b
def fl (s:List UInt8):RE×(Bool×Unit):=bif Ld s then WL else bif isInf (oP s).1 then Ww (oP s).2 else num (oP s).1 (oP s).2
theorem JA (n:Nat) (s:List UInt8):named n s=some (bif Ld s then WL else bif isInf (oP s).1 then Ww (oP s).2 else no):=by
 unfold named Ld isInf;rw [jk];simp only [zaa];cases s== [46,110,97,110]<;>cases s== [46,78,97,78]<;>cases s== [46,78,65,78]<;>cases (oP s).1== [46,105,110,102]<;>cases (oP s).1== [46,73,110,102]<;>cases (oP s).1== [46,73,78,70]<;>rfl
theorem BI (n:Nat) (w p v:List UInt8) (b:Bool) (hw:w.length<=8100) (hp:p.length<=8100) (hn:27000<=n):
  (Option.bind (bif (!(ex v).2) then
    some Bool.true
   else
   bif (w==([]:List UInt8)) then
    bif (p==([]:List UInt8)) then
     some Bool.true
    else
    some (Go.Iv.aX (5000:Int) (zap (len w+len p)))
   else
   some (Go.Iv.aX (5000:Int) (zap (len w+len p)))) fun b7=>
  bif b7 then
   some no
  else
  bif (room (w.length+p.length)) then
  Option.bind (whole (n+1) b (w++p) (zap ((ex v).1 - len p))) fun y8=>
  some ((y8.1.1,(y8.1.2.1,(y8.1.2.2.1,y8.1.2.2.2))),Bool.true,())
  else none)=some (tail w p v b):=by
 have hb:=OJ v;have w1:zap (len w+len p)=len w+len p:=by unfold len;rw [af]<;>omega
 have w2:zap ((ex v).1 - len p)=(ex v).1 - len p:=by unfold len;rw [af]<;>omega
 rw [kj,kj,w1,w2,xG (n+1) b (w++p) _ (by unfold len;omega) (by unfold len;omega) (by simp;omega) (by simp;omega),bQ (show w.length+p.length<=1000000 by omega)];unfold tail;cases (ex v).2<;>cases w.isEmpty<;>cases p.isEmpty<;>cases aX 5000 (len w+len p)<;>rfl
theorem IG (n:Nat) (s:List UInt8) (hs:s.length<=8100) (hn:27000<=n):float n s=some (fl s):=by
 unfold float fl;rw [JA,zaa];cases hnan:Ld s with
 |true=>rfl
 |false=>
  simp only [zab];cases hinf:isInf (oP s).1 with
  |true=>rfl
  |false=>
   simp only [zab,no];rw [jk];simp only [zaa,iT,Nat.sub_zero,List.drop_zero];have hsl:=Lr s;generalize (oP s).1=t at*;generalize (oP s).2=b at*;have hr:=JN t;rw [ox (n+3) t (by omega) (by omega)];simp only [zaa,len,Int.toNat_natCast,ao (show (0:Int)<=((run t).length:Nat) by omega),ao (show (((run t).length:Nat):Int)<=(t.length:Nat) by omega),zai,zac,fj,Gp,iT];unfold num;cases hp:pre [46] (t.drop (run t).length) with
   |false=>
    simp only [zab];rw [nn n _ (by simp;omega) (by simp;omega)];simp only [zaa];have:=BI n (run t) [] (t.drop (run t).length) b (by omega) (by simp) hn;exact this
   |true=>
    have hpl:=mB _ _ hp;simp only [List.length_drop,List.length_singleton] at hpl;have hr2:=JN (t.drop ((run t).length+1));rw [List.length_drop] at hr2;simp only [zac,List.length_drop,ao (show (1:Int)<=((t.length - (run t).length:Nat):Int) by omega),zal];rw [ox (n+3) _ (by simp;omega) (by simp;omega)];have w:zap ((1:Int)+((run (t.drop ((run t).length+1))).length:Nat))=((1+(run (t.drop ((run t).length+1))).length:Nat):Int):=by rw [af]<;>omega
    simp only [zaa,w,Int.toNat_natCast,ao (show (0:Int)<=((1+(run (t.drop ((run t).length+1))).length:Nat):Int) by omega),ao (show (1:Int)<=((1+(run (t.drop ((run t).length+1))).length:Nat):Int) by omega),
     ao (show ((1+(run (t.drop ((run t).length+1))).length:Nat):Int)<=((t.length - (run t).length:Nat):Int) by omega),zai,zac]
    have e1:(run t).length+(1+(run (t.drop ((run t).length+1))).length)=(run t).length+1+(run (t.drop ((run t).length+1))).length:=by omega
    have e2:List.take (1+(run (t.drop ((run t).length+1))).length - 1) (List.drop ((run t).length+1) t)=run (t.drop ((run t).length+1)):=by
     rw [Nat.add_sub_cancel_left,Gp]
    rw [e1,e2,nn n _ (by simp;omega) (by simp;omega)];simp only [zaa];exact BI n (run t) (run (t.drop ((run t).length+1))) _ b (by omega) (by omega) hn
end Go.Proofs.YteknbnkjelmfaaaGreatDoor.V
namespace Go.Proofs.YteknbnkjelmfaaaGreatDoor
open Go Go.Iv Go.Gv
set_option maxRecDepth 100000
noncomputable def OE (_n:Nat) (k:Int):Option ((List UInt8)×Unit):=
 bif (k==1) then
 some (([116,97,103,58,121,97,109,108,46,111,114,103,44,50,48,48,50,58,115,116,114]:List UInt8),())
 else
 bif (k==2) then
 some (([116,97,103,58,121,97,109,108,46,111,114,103,44,50,48,48,50,58,115,101,113]:List UInt8),())
 else
 bif (k==3) then
 some (([116,97,103,58,121,97,109,108,46,111,114,103,44,50,48,48,50,58,109,97,112]:List UInt8),())
 else
 some (([]:List UInt8),())
noncomputable def Cs:aZ:=⟨97,[(false,(.int .i64))],[(false,.str)],0,fun n x=>OE n x.1⟩
theorem JP (n:Nat):az Tryz.prog hint aI Cs n:=
 az.of (hk:=fun β=>(aq.mk [] []).hk β) (sh:=aI) (fun m _=>ab.aC ab.nil m) (fun x=>by kernel_rfl)
noncomputable def ow (n:Nat) (k:Int) (s:List UInt8):Option ((List UInt8)×Unit):=
 Option.bind (OE n k) fun y0=>
 bif (s==y0.1) then
 some (([]:List UInt8),())
 else
 some (s,())
noncomputable def rl:aZ:=⟨81,[(false,(.int .i64)),(false,.str)],[(false,.str)],1,fun n x=>ow n x.1 x.2.1⟩
theorem BO (n:Nat):az Tryz.prog hint aI rl n:=
 az.of (hk:=fun β=>(aq.mk [Cs] []).hk β) (sh:=aI) (fun m _=>ab.aC (ab.nil.fn JP) m) (fun x=>by kernel_rfl)
noncomputable def gq (D:Nat) (F:Nat->aL [(false,(.int .i64))]×ct [(64,.cells 53 [.aT sN,.aT (.int .i64),.int .i64,.int .i64,.int .i64,.bool,.bool,.fix (TV.mp 65),.fix (TV.mp 66),.int .i64,.all 67 45 sE .any] true),(65,.map 3 false false (.int .i64) (.int .i64) false),(66,.map 3 false false (.int .i64) .str false)]->Option (aL [(false,.str)]×ct [(64,.cells 53 [.aT sN,.aT (.int .i64),.int .i64,.int .i64,.int .i64,.bool,.bool,.fix (TV.mp 65),.fix (TV.mp 66),.int .i64,.all 67 45 sE .any] true),(65,.map 3 false false (.int .i64) (.int .i64) false),(66,.map 3 false false (.int .i64) .str false)])):er:=⟨57,[(TV.ptr 64 0)],[(false,(.int .i64))],[(false,.str)],67,[(64,.cells 53 [.aT sN,.aT (.int .i64),.int .i64,.int .i64,.int .i64,.bool,.bool,.fix (TV.mp 65),.fix (TV.mp 66),.int .i64,.all 67 45 sE .any] true),(65,.map 3 false false (.int .i64) (.int .i64) false),(66,.map 3 false false (.int .i64) .str false)],68,[(64,.cells 53 [.aT sN,.aT (.int .i64),.int .i64,.int .i64,.int .i64,.bool,.bool,.fix (TV.mp 65),.fix (TV.mp 66),.int .i64,.all 67 45 sE .any] true),(65,.map 3 false false (.int .i64) (.int .i64) false),(66,.map 3 false false (.int .i64) .str false)],68,D,F⟩
theorem EB (D:Nat) (F):(gq D F).T.ok Tryz.prog hint:=by
 intro p hp;simp only [gq,er.T,List.mem_cons,List.not_mem_nil,or_false] at hp;rcases hp with rfl |rfl |rfl
 ·trivial
 ·trivial
 ·trivial
theorem De (D:Nat) (F):(gq D F).T2.ok Tryz.prog hint:=by
 intro p hp;simp only [gq,er.T2,List.mem_cons,List.not_mem_nil,or_false] at hp;rcases hp with rfl |rfl |rfl
 ·trivial
 ·trivial
 ·trivial
noncomputable def vt (_n:Nat) (i:Int) (c64_0:qN) (c64_1:(List Int)) (c64_2:Int) (c64_3:Int) (c64_4:Int) (c64_5:Bool) (c64_6:Bool) (c64_9:Int) (c64_10:qE) (m65:(List (Int×Int))) (m66:qM):Option (((List UInt8)×Unit)×((qN×((List Int)×(Int×(Int×(Int×(Bool×(Bool×(Unit×(Unit×(Int×(qE×Unit)))))))))))×((List (Int×Int))×(qM×Unit)))):=
 bif (aX (dD kI m65 i 0) 2) then
 some ((([]:List UInt8),()),((c64_0,(c64_1,(c64_2,(c64_3,(c64_4,(c64_5,(c64_6,((),((),(c64_9,(c64_10,()))))))))))),(m65,(m66,()))))
 else
 bif (Ji (zap ((len m66)+1))) then
 bif (room ((List.length ([97]:List UInt8))+(List.length (Go.Lib.itoa (zap ((len m66)+1)))))) then
 some (((dD kI (dq kI m66 i (([97]:List UInt8)++(Go.Lib.itoa (zap ((len m66)+1))))) i ([]:List UInt8)),()),((c64_0,(c64_1,(c64_2,(c64_3,(c64_4,(c64_5,(c64_6,((),((),(c64_9,(c64_10,()))))))))))),(m65,((dq kI m66 i (([97]:List UInt8)++(Go.Lib.itoa (zap ((len m66)+1))))),()))))
 else none
 else none
noncomputable def yD:er:=gq 1 (fun n x=>vt n x.1.1 x.2.1.1 x.2.1.2.1 x.2.1.2.2.1 x.2.1.2.2.2.1 x.2.1.2.2.2.2.1 x.2.1.2.2.2.2.2.1 x.2.1.2.2.2.2.2.2.1 x.2.1.2.2.2.2.2.2.2.2.2.1 x.2.1.2.2.2.2.2.2.2.2.2.2.1 x.2.2.1 x.2.2.2.1)
theorem I4 (n:Nat):dh Tryz.prog hint aI yD n:=
 dh.of (hk:=fun β=>(aq.mk [] []).hk β) (sh:=aI) (De _ _) (fun m _=>ab.aC ab.nil m) (fun x s=>by kernel_rfl)
noncomputable def gy (D:Nat) (F:Nat->aL [(true,sN),(false,.bool)]×ct [(64,.cells 53 [.aT sN,.aT (.int .i64),.int .i64,.int .i64,.int .i64,.bool,.bool,.fix (TV.mp 65),.fix (TV.mp 66),.int .i64,.all 67 45 sE .any] true),(65,.map 3 false false (.int .i64) (.int .i64) false),(66,.map 3 false false (.int .i64) .str false)]->Option (aL [(true,sE)]×ct [(64,.cells 53 [.aT sN,.aT (.int .i64),.int .i64,.int .i64,.int .i64,.bool,.bool,.fix (TV.mp 65),.fix (TV.mp 66),.int .i64,.all 67 45 sE .any] true),(65,.map 3 false false (.int .i64) (.int .i64) false),(66,.map 3 false false (.int .i64) .str false)])):er:=⟨59,[(TV.ptr 64 0)],[(true,sN),(false,.bool)],[(true,sE)],67,[(64,.cells 53 [.aT sN,.aT (.int .i64),.int .i64,.int .i64,.int .i64,.bool,.bool,.fix (TV.mp 65),.fix (TV.mp 66),.int .i64,.all 67 45 sE .any] true),(65,.map 3 false false (.int .i64) (.int .i64) false),(66,.map 3 false false (.int .i64) .str false)],68,[(64,.cells 53 [.aT sN,.aT (.int .i64),.int .i64,.int .i64,.int .i64,.bool,.bool,.fix (TV.mp 65),.fix (TV.mp 66),.int .i64,.all 67 45 sE .any] true),(65,.map 3 false false (.int .i64) (.int .i64) false),(66,.map 3 false false (.int .i64) .str false)],68,D,F⟩
theorem F3 (D:Nat) (F):(gy D F).T.ok Tryz.prog hint:=by
 intro p hp;simp only [gy,er.T,List.mem_cons,List.not_mem_nil,or_false] at hp;rcases hp with rfl |rfl |rfl
 ·trivial
 ·trivial
 ·trivial
theorem DA (D:Nat) (F):(gy D F).T2.ok Tryz.prog hint:=by
 intro p hp;simp only [gy,er.T2,List.mem_cons,List.not_mem_nil,or_false] at hp;rcases hp with rfl |rfl |rfl
 ·trivial
 ·trivial
 ·trivial
noncomputable def qn (n:Nat) (x:(Int×(List UInt8×(List UInt8×(List Int×Bool))))) (inner:Bool) (c64_0:qN) (c64_1:(List Int)) (c64_2:Int) (c64_3:Int) (c64_4:Int) (c64_5:Bool) (c64_6:Bool) (c64_9:Int) (c64_10:qE) (m65:(List (Int×Int))) (m66:qM):Option (((Int×(List UInt8×(List UInt8×(List UInt8×(Int×Bool)))))×Unit)×((qN×((List Int)×(Int×(Int×(Int×(Bool×(Bool×(Unit×(Unit×(Int×(qE×Unit)))))))))))×((List (Int×Int))×(qM×Unit)))):=
 Option.bind (may n c64_4 x.2.2.1 inner) fun y0=>
 bif (!y0.1) then
 Option.bind (ow (n+9) x.1 x.2.1) fun y1=>
 some (((7,(x.2.2.1,(y1.1,(([]:List UInt8),(3,false))))),()),((c64_0,(c64_1,(c64_2,(c64_3,(c64_4,(c64_5,(c64_6,((),((),(c64_9,(c64_10,()))))))))))),(m65,(m66,()))))
 else
 Option.bind (ow (n+9) x.1 x.2.1) fun y2=>
 bif (c64_4 !=1) then
 some (((7,(x.2.2.1,(y2.1,(([]:List UInt8),(c64_4,false))))),()),((c64_0,(c64_1,(c64_2,(c64_3,(c64_4,(c64_5,(c64_6,((),((),(c64_9,(c64_10,()))))))))))),(m65,(m66,()))))
 else
 Option.bind (bif (x.1 !=1) then
  some true
 else
 some false) fun b5=>
 bif b5 then
 Option.bind (OE (n+9) x.1) fun y6=>
 bif (y6.1==x.2.1) then
  some (((7,(x.2.2.1,(([]:List UInt8),(([]:List UInt8),(c64_4,false))))),()),((c64_0,(c64_1,(c64_2,(c64_3,(c64_4,(c64_5,(c64_6,((),((),(c64_9,(c64_10,()))))))))))),(m65,(m66,()))))
 else
 bif (y2.1==([]:List UInt8)) then
  some (((7,(x.2.2.1,(y2.1,(([]:List UInt8),(3,false))))),()),((c64_0,(c64_1,(c64_2,(c64_3,(c64_4,(c64_5,(c64_6,((),((),(c64_9,(c64_10,()))))))))))),(m65,(m66,()))))
 else
 some (((7,(x.2.2.1,(y2.1,(([]:List UInt8),(c64_4,false))))),()),((c64_0,(c64_1,(c64_2,(c64_3,(c64_4,(c64_5,(c64_6,((),((),(c64_9,(c64_10,()))))))))))),(m65,(m66,()))))
 else
 Option.bind (core (n+3) x.2.2.1) fun y7=>
 bif (room ((List.length ([116,97,103,58,121,97,109,108,46,111,114,103,44,50,48,48,50,58]:List UInt8))+(List.length y7.1))) then
 bif ((([116,97,103,58,121,97,109,108,46,111,114,103,44,50,48,48,50,58]:List UInt8)++y7.1)==x.2.1) then
 some (((7,(x.2.2.1,(([]:List UInt8),(([]:List UInt8),(c64_4,false))))),()),((c64_0,(c64_1,(c64_2,(c64_3,(c64_4,(c64_5,(c64_6,((),((),(c64_9,(c64_10,()))))))))))),(m65,(m66,()))))
 else
 bif (y2.1==([]:List UInt8)) then
 some (((7,(x.2.2.1,(y2.1,(([]:List UInt8),(3,false))))),()),((c64_0,(c64_1,(c64_2,(c64_3,(c64_4,(c64_5,(c64_6,((),((),(c64_9,(c64_10,()))))))))))),(m65,(m66,()))))
 else
 some (((7,(x.2.2.1,(y2.1,(([]:List UInt8),(c64_4,false))))),()),((c64_0,(c64_1,(c64_2,(c64_3,(c64_4,(c64_5,(c64_6,((),((),(c64_9,(c64_10,()))))))))))),(m65,(m66,()))))
 else none
noncomputable def xp:er:=gy 11 (fun n x=>qn n x.1.1 x.1.2.1 x.2.1.1 x.2.1.2.1 x.2.1.2.2.1 x.2.1.2.2.2.1 x.2.1.2.2.2.2.1 x.2.1.2.2.2.2.2.1 x.2.1.2.2.2.2.2.2.1 x.2.1.2.2.2.2.2.2.2.2.2.1 x.2.1.2.2.2.2.2.2.2.2.2.2.1 x.2.2.1 x.2.2.2.1)
theorem HP (n:Nat):dh Tryz.prog hint aI xp n:=
 dh.of (hk:=fun β=>(aq.mk [J8,Cs,rl,PF] []).hk β) (sh:=aI) (DA _ _) (fun m _=>ab.aC ((((ab.nil.fn Uy).fn BO).fn JP).fn RL) m) (fun x s=>by kernel_rfl)
noncomputable def fe (D:Nat) (F:Nat->aL [(false,(.int .i64)),(false,.bool),(false,(.int .i64))]×ct [(64,.cells 53 [.aT sN,.aT (.int .i64),.int .i64,.int .i64,.int .i64,.bool,.bool,.fix (TV.mp 65),.fix (TV.mp 66),.int .i64,.all 67 45 sE .any] true),(65,.map 3 false false (.int .i64) (.int .i64) false),(66,.map 3 false false (.int .i64) .str false)]->Option (aL [(false,(.int .i64))]×ct [(64,.cells 53 [.aT sN,.aT (.int .i64),.int .i64,.int .i64,.int .i64,.bool,.bool,.fix (TV.mp 65),.fix (TV.mp 66),.int .i64,.all 67 45 sE .any] true),(65,.map 3 false false (.int .i64) (.int .i64) false),(66,.map 3 false false (.int .i64) .str false)])):er:=⟨35,[(TV.ptr 64 0)],[(false,(.int .i64)),(false,.bool),(false,(.int .i64))],[(false,(.int .i64))],67,[(64,.cells 53 [.aT sN,.aT (.int .i64),.int .i64,.int .i64,.int .i64,.bool,.bool,.fix (TV.mp 65),.fix (TV.mp 66),.int .i64,.all 67 45 sE .any] true),(65,.map 3 false false (.int .i64) (.int .i64) false),(66,.map 3 false false (.int .i64) .str false)],68,[(64,.cells 53 [.aT sN,.aT (.int .i64),.int .i64,.int .i64,.int .i64,.bool,.bool,.fix (TV.mp 65),.fix (TV.mp 66),.int .i64,.all 67 45 sE .any] true),(65,.map 3 false false (.int .i64) (.int .i64) false),(66,.map 3 false false (.int .i64) .str false)],68,D,F⟩
theorem Gz (D:Nat) (F):(fe D F).T.ok Tryz.prog hint:=by
 intro p hp;simp only [fe,er.T,List.mem_cons,List.not_mem_nil,or_false] at hp;rcases hp with rfl |rfl |rfl
 ·trivial
 ·trivial
 ·trivial
theorem LN (D:Nat) (F):(fe D F).T2.ok Tryz.prog hint:=by
 intro p hp;simp only [fe,er.T2,List.mem_cons,List.not_mem_nil,or_false] at hp;rcases hp with rfl |rfl |rfl
 ·trivial
 ·trivial
 ·trivial
noncomputable def DM (Fr:Nat->Int->Bool->Int->qN->(List Int)->Int->Int->Int->Bool->Bool->Int->qE->(List (Int×Int))->qM->Option ((Int×Unit)×((qN×((List Int)×(Int×(Int×(Int×(Bool×(Bool×(Unit×(Unit×(Int×(qE×Unit)))))))))))×((List (Int×Int))×(qM×Unit))))):er:=fe 0 (fun n x=>Fr n x.1.1 x.1.2.1 x.1.2.2.1 x.2.1.1 x.2.1.2.1 x.2.1.2.2.1 x.2.1.2.2.2.1 x.2.1.2.2.2.2.1 x.2.1.2.2.2.2.2.1 x.2.1.2.2.2.2.2.2.1 x.2.1.2.2.2.2.2.2.2.2.2.1 x.2.1.2.2.2.2.2.2.2.2.2.2.1 x.2.2.1 x.2.2.2.1)
noncomputable def qS:Tm:=⟨[(0,.one (.fix (TV.ptr 64 0))),(11,.one (.int .i64))],[(64,.cells 53 [.aT sN,.aT (.int .i64),.int .i64,.int .i64,.int .i64,.bool,.bool,.fix (TV.mp 65),.fix (TV.mp 66),.int .i64,.all 74 45 sE .any] true),(65,.map 3 false false (.int .i64) (.int .i64) false),(66,.map 3 false false (.int .i64) .str false),(70,.cells 40 [.int .i64,.str,.str,.aT (.int .i64),.bool] true)],74,75,1010⟩
noncomputable def vY:Tm:=⟨[(10,.one (.int .i64))],[(64,.cells 53 [.aT sN,.aT (.int .i64),.int .i64,.int .i64,.int .i64,.bool,.bool,.fix (TV.mp 65),.fix (TV.mp 66),.int .i64,.all 74 45 sE .any] true),(65,.map 3 false false (.int .i64) (.int .i64) false),(66,.map 3 false false (.int .i64) .str false),(70,.cells 40 [.int .i64,.str,.str,.aT (.int .i64),.bool] true)],74,75,1010⟩
noncomputable def Kc:Tm:=⟨[(0,.one (.fix (TV.ptr 64 0))),(3,.one (.bool)),(4,.one (.int .i64)),(6,.one (.fix (TV.ptr 70 0))),(11,.one (.int .i64)),(43,.one (.aT (.int .i64))),(44,.one (.int .i64)),(45,.one (.int .i64))],[(64,.cells 53 [.aT sN,.aT (.int .i64),.int .i64,.int .i64,.int .i64,.bool,.bool,.fix (TV.mp 65),.fix (TV.mp 66),.int .i64,.all 74 45 sE .any] true),(65,.map 3 false false (.int .i64) (.int .i64) false),(66,.map 3 false false (.int .i64) .str false),(70,.cells 40 [.int .i64,.str,.str,.aT (.int .i64),.bool] true)],74,75,1010⟩
noncomputable def gO (Fr:Nat->Int->Bool->Int->qN->(List Int)->Int->Int->Int->Bool->Bool->Int->qE->(List (Int×Int))->qM->Option ((Int×Unit)×((qN×((List Int)×(Int×(Int×(Int×(Bool×(Bool×(Unit×(Unit×(Int×(qE×Unit)))))))))))×((List (Int×Int))×(qM×Unit))))):Nat->Bool->Int->Int->(List Int)->Int->Int->qN->(List Int)->Int->Int->Int->Bool->Bool->Int->qE->(List (Int×Int))->qM->Int->(List UInt8)->(List UInt8)->(List Int)->Bool->Option (((Unit×(Int×Unit))×((qN×((List Int)×(Int×(Int×(Int×(Bool×(Bool×(Unit×(Unit×(Int×(qE×Unit)))))))))))×((List (Int×Int))×(qM×((Int×((List UInt8)×((List UInt8)×((List Int)×(Bool×Unit)))))×Unit)))))⊕((Int×Unit)×((qN×((List Int)×(Int×(Int×(Int×(Bool×(Bool×(Unit×(Unit×(Int×(qE×Unit)))))))))))×((List (Int×Int))×(qM×((Int×((List UInt8)×((List UInt8)×((List Int)×(Bool×Unit)))))×Unit))))))
 |0,_,_,_,_,_,_,_,_,_,_,_,_,_,_,_,_,_,_,_,_,_,_=>none
 |n+1,t3,t4,t11,t43,t44,t45,c64_0,c64_1,c64_2,c64_3,c64_4,c64_5,c64_6,c64_9,c64_10,m65,m66,c70_0,c70_1,c70_2,c70_3,c70_4=>
 bif (aX t45 t44) then
  bif (au 0 t45) then
  Option.bind (t43[(Int.toNat t45)]?) fun x13=>
  bif t3 then
  Option.bind (Fr (n+1) x13 true (zap (t4+1)) c64_0 c64_1 c64_2 c64_3 c64_4 c64_5 c64_6 c64_9 c64_10 m65 m66) fun y14=>
  bif (y14.1.1 !=0) then
   some (.inr ((y14.1.1,()),((y14.2.1.1,(y14.2.1.2.1,(y14.2.1.2.2.1,(y14.2.1.2.2.2.1,(y14.2.1.2.2.2.2.1,(y14.2.1.2.2.2.2.2.1,(y14.2.1.2.2.2.2.2.2.1,((),((),(y14.2.1.2.2.2.2.2.2.2.2.2.1,(y14.2.1.2.2.2.2.2.2.2.2.2.2.1,()))))))))))),(y14.2.2.1,(y14.2.2.2.1,((c70_0,(c70_1,(c70_2,(c70_3,(c70_4,()))))),()))))))
  else
  gO Fr n t3 t4 t11 t43 t44 (zap (t45+1)) y14.2.1.1 y14.2.1.2.1 y14.2.1.2.2.1 y14.2.1.2.2.2.1 y14.2.1.2.2.2.2.1 y14.2.1.2.2.2.2.2.1 y14.2.1.2.2.2.2.2.2.1 y14.2.1.2.2.2.2.2.2.2.2.2.1 y14.2.1.2.2.2.2.2.2.2.2.2.2.1 y14.2.2.1 y14.2.2.2.1 c70_0 c70_1 c70_2 c70_3 c70_4
  else
  bif (c70_0==3) then
  Option.bind (Fr (n+1) x13 ((Int.tmod t45 2)==0) (zap (t4+1)) c64_0 c64_1 c64_2 c64_3 c64_4 c64_5 c64_6 c64_9 c64_10 m65 m66) fun y15=>
  bif (y15.1.1 !=0) then
   some (.inr ((y15.1.1,()),((y15.2.1.1,(y15.2.1.2.1,(y15.2.1.2.2.1,(y15.2.1.2.2.2.1,(y15.2.1.2.2.2.2.1,(y15.2.1.2.2.2.2.2.1,(y15.2.1.2.2.2.2.2.2.1,((),((),(y15.2.1.2.2.2.2.2.2.2.2.2.1,(y15.2.1.2.2.2.2.2.2.2.2.2.2.1,()))))))))))),(y15.2.2.1,(y15.2.2.2.1,((c70_0,(c70_1,(c70_2,(c70_3,(c70_4,()))))),()))))))
  else
  gO Fr n t3 t4 t11 t43 t44 (zap (t45+1)) y15.2.1.1 y15.2.1.2.1 y15.2.1.2.2.1 y15.2.1.2.2.2.1 y15.2.1.2.2.2.2.1 y15.2.1.2.2.2.2.2.1 y15.2.1.2.2.2.2.2.2.1 y15.2.1.2.2.2.2.2.2.2.2.2.1 y15.2.1.2.2.2.2.2.2.2.2.2.2.1 y15.2.2.1 y15.2.2.2.1 c70_0 c70_1 c70_2 c70_3 c70_4
  else
  Option.bind (Fr (n+1) x13 false (zap (t4+1)) c64_0 c64_1 c64_2 c64_3 c64_4 c64_5 c64_6 c64_9 c64_10 m65 m66) fun y16=>
  bif (y16.1.1 !=0) then
  some (.inr ((y16.1.1,()),((y16.2.1.1,(y16.2.1.2.1,(y16.2.1.2.2.1,(y16.2.1.2.2.2.1,(y16.2.1.2.2.2.2.1,(y16.2.1.2.2.2.2.2.1,(y16.2.1.2.2.2.2.2.2.1,((),((),(y16.2.1.2.2.2.2.2.2.2.2.2.1,(y16.2.1.2.2.2.2.2.2.2.2.2.2.1,()))))))))))),(y16.2.2.1,(y16.2.2.2.1,((c70_0,(c70_1,(c70_2,(c70_3,(c70_4,()))))),()))))))
  else
  gO Fr n t3 t4 t11 t43 t44 (zap (t45+1)) y16.2.1.1 y16.2.1.2.1 y16.2.1.2.2.1 y16.2.1.2.2.2.1 y16.2.1.2.2.2.2.1 y16.2.1.2.2.2.2.2.1 y16.2.1.2.2.2.2.2.2.1 y16.2.1.2.2.2.2.2.2.2.2.2.1 y16.2.1.2.2.2.2.2.2.2.2.2.2.1 y16.2.2.1 y16.2.2.2.1 c70_0 c70_1 c70_2 c70_3 c70_4
  else none
 else
 some (.inl (((),(t11,())),((c64_0,(c64_1,(c64_2,(c64_3,(c64_4,(c64_5,(c64_6,((),((),(c64_9,(c64_10,()))))))))))),(m65,(m66,((c70_0,(c70_1,(c70_2,(c70_3,(c70_4,()))))),()))))))
noncomputable def Eb (Fr:Nat->Int->Bool->Int->qN->(List Int)->Int->Int->Int->Bool->Bool->Int->qE->(List (Int×Int))->qM->Option ((Int×Unit)×((qN×((List Int)×(Int×(Int×(Int×(Bool×(Bool×(Unit×(Unit×(Int×(qE×Unit)))))))))))×((List (Int×Int))×(qM×Unit))))):aO:=⟨58,6,none,Kc,[(.exit 0,qS),(.ret,vY)],1,fun n x=>gO Fr n x.1.2.1 x.1.2.2.1 x.1.2.2.2.2.1 x.1.2.2.2.2.2.1 x.1.2.2.2.2.2.2.1 x.1.2.2.2.2.2.2.2.1 x.2.1.1 x.2.1.2.1 x.2.1.2.2.1 x.2.1.2.2.2.1 x.2.1.2.2.2.2.1 x.2.1.2.2.2.2.2.1 x.2.1.2.2.2.2.2.2.1 x.2.1.2.2.2.2.2.2.2.2.2.1 x.2.1.2.2.2.2.2.2.2.2.2.2.1 x.2.2.1 x.2.2.2.1 x.2.2.2.2.1.1 x.2.2.2.2.1.2.1 x.2.2.2.2.1.2.2.1 x.2.2.2.2.1.2.2.2.1 x.2.2.2.2.1.2.2.2.2.1,[68,71,72]⟩
theorem uw:qS.ok Tryz.prog hint:=Tm.cC rfl
theorem Aa:vY.ok Tryz.prog hint:=Tm.cC rfl
theorem yE:Kc.ok Tryz.prog hint:=Tm.cC rfl
theorem OH (Fr:Nat->Int->Bool->Int->qN->(List Int)->Int->Int->Int->Bool->Bool->Int->qE->(List (Int×Int))->qM->Option ((Int×Unit)×((qN×((List Int)×(Int×(Int×(Int×(Bool×(Bool×(Unit×(Unit×(Int×(qE×Unit)))))))))))×((List (Int×Int))×(qM×Unit))))) (hFr:∀ m,dh Tryz.prog hint aI (DM Fr) m):∀ n,aw Tryz.prog hint aI (Eb Fr) n:=
 aw.of (hk:=fun β=>(aq.mk [] []).WA [(DM Fr)] β) (sh:=aI) (aQ.of (by kernel_rfl)) yE ⟨⟨uw,zam _,zam _⟩,⟨Aa,zam _,zam _⟩,trivial⟩ (fun m=>ab.PU ab.nil (kJ.nil.fn hFr (Gz _ _)) m)
  (fun _=>by kernel_rfl) (fun m x=>by kernel_rfl)
noncomputable def CP (Fr:Nat->Int->Bool->Int->qN->(List Int)->Int->Int->Int->Bool->Bool->Int->qE->(List (Int×Int))->qM->Option ((Int×Unit)×((qN×((List Int)×(Int×(Int×(Int×(Bool×(Bool×(Unit×(Unit×(Int×(qE×Unit)))))))))))×((List (Int×Int))×(qM×Unit))))) (n:Nat) (i:Int) (key:Bool) (deep:Int) (c64_0:qN) (c64_1:(List Int)) (c64_2:Int) (c64_3:Int) (c64_4:Int) (c64_5:Bool) (c64_6:Bool) (c64_9:Int) (c64_10:qE) (m65:(List (Int×Int))) (m66:qM):Option ((Int×Unit)×((qN×((List Int)×(Int×(Int×(Int×(Bool×(Bool×(Unit×(Unit×(Int×(qE×Unit)))))))))))×((List (Int×Int))×(qM×Unit)))):=
 bif (z8 kI m66 i) then
 bif (room (((List.length c64_10)+(List.length (((8:Int),(([]:List UInt8),(([]:List UInt8),((dD kI m66 i ([]:List UInt8)),((0:Int),false))))):: [])))*73)) then
 some ((0,()),((c64_0,(c64_1,(c64_2,(c64_3,(c64_4,(c64_5,(c64_6,((),((),(c64_9,((c64_10++((8,(([]:List UInt8),(([]:List UInt8),((dD kI m66 i ([]:List UInt8)),(0,false))))):: [])),()))))))))))),(m65,(m66,()))))
 else none
 else
 bif (au 0 i) then
 Option.bind (c64_0[(Int.toNat i)]?) fun x0=>
 Option.bind (bif (x0.1 !=1) then
  some (deep==200)
 else
 some false) fun b2=>
 bif b2 then
 some ((8,()),((c64_0,(c64_1,(c64_2,(c64_3,(c64_4,(c64_5,(c64_6,((),((),(c64_9,(c64_10,()))))))))))),(m65,(m66,()))))
 else
 bif (aX 20000 (zap (c64_9+1))) then
 some ((9,()),((c64_0,(c64_1,(c64_2,(c64_3,(c64_4,(c64_5,(c64_6,((),((),((zap (c64_9+1)),(c64_10,()))))))))))),(m65,(m66,()))))
 else
 Option.bind (vt (n+10) i c64_0 c64_1 c64_2 c64_3 c64_4 c64_5 c64_6 (zap (c64_9+1)) c64_10 m65 m66) fun y3=>
 bif (x0.1 !=1) then
 bif (x0.1==3) then
  Option.bind (ow (n+9) x0.1 x0.2.1) fun y4=>
  bif y3.2.1.2.2.2.2.2.1 then
  bif (room (((List.length y3.2.1.2.2.2.2.2.2.2.2.2.2.1)+(List.length (((5:Int),(([]:List UInt8),(y4.1,(y3.1.1,((0:Int),true))))):: [])))*73)) then
  Option.bind (gO Fr (n+10) key deep 5 x0.2.2.2.1 (len x0.2.2.2.1) 0 y3.2.1.1 y3.2.1.2.1 y3.2.1.2.2.1 y3.2.1.2.2.2.1 y3.2.1.2.2.2.2.1 y3.2.1.2.2.2.2.2.1 y3.2.1.2.2.2.2.2.2.1 y3.2.1.2.2.2.2.2.2.2.2.2.1 (y3.2.1.2.2.2.2.2.2.2.2.2.2.1++((5,(([]:List UInt8),(y4.1,(y3.1.1,(0,true))))):: [])) y3.2.2.1 y3.2.2.2.1 x0.1 x0.2.1 x0.2.2.1 x0.2.2.2.1 x0.2.2.2.2) fun y17=>
  match y17 with
   | .inl y18=>
   bif (room (((List.length y18.2.1.2.2.2.2.2.2.2.2.2.2.1)+(List.length (((zap (y18.1.2.1+(1:Int))),(([]:List UInt8),(([]:List UInt8),(([]:List UInt8),((0:Int),false))))):: [])))*73)) then
   some ((0,()),((y18.2.1.1,(y18.2.1.2.1,(y18.2.1.2.2.1,(y18.2.1.2.2.2.1,(y18.2.1.2.2.2.2.1,(y18.2.1.2.2.2.2.2.1,(y18.2.1.2.2.2.2.2.2.1,((),((),(y18.2.1.2.2.2.2.2.2.2.2.2.1,((y18.2.1.2.2.2.2.2.2.2.2.2.2.1++(((zap (y18.1.2.1+1)),(([]:List UInt8),(([]:List UInt8),(([]:List UInt8),(0,false))))):: [])),()))))))))))),(y18.2.2.1,(y18.2.2.2.1,()))))
   else none
   | .inr y19=>
   some ((y19.1.1,()),((y19.2.1.1,(y19.2.1.2.1,(y19.2.1.2.2.1,(y19.2.1.2.2.2.1,(y19.2.1.2.2.2.2.1,(y19.2.1.2.2.2.2.2.1,(y19.2.1.2.2.2.2.2.2.1,((),((),(y19.2.1.2.2.2.2.2.2.2.2.2.1,(y19.2.1.2.2.2.2.2.2.2.2.2.2.1,()))))))))))),(y19.2.2.1,(y19.2.2.2.1,()))))
  else none
  else
  bif key then
  bif (room (((List.length y3.2.1.2.2.2.2.2.2.2.2.2.2.1)+(List.length (((5:Int),(([]:List UInt8),(y4.1,(y3.1.1,((0:Int),true))))):: [])))*73)) then
  Option.bind (gO Fr (n+10) key deep 5 x0.2.2.2.1 (len x0.2.2.2.1) 0 y3.2.1.1 y3.2.1.2.1 y3.2.1.2.2.1 y3.2.1.2.2.2.1 y3.2.1.2.2.2.2.1 y3.2.1.2.2.2.2.2.1 y3.2.1.2.2.2.2.2.2.1 y3.2.1.2.2.2.2.2.2.2.2.2.1 (y3.2.1.2.2.2.2.2.2.2.2.2.2.1++((5,(([]:List UInt8),(y4.1,(y3.1.1,(0,true))))):: [])) y3.2.2.1 y3.2.2.2.1 x0.1 x0.2.1 x0.2.2.1 x0.2.2.2.1 x0.2.2.2.2) fun y20=>
  match y20 with
   | .inl y21=>
   bif (room (((List.length y21.2.1.2.2.2.2.2.2.2.2.2.2.1)+(List.length (((zap (y21.1.2.1+(1:Int))),(([]:List UInt8),(([]:List UInt8),(([]:List UInt8),((0:Int),false))))):: [])))*73)) then
   some ((0,()),((y21.2.1.1,(y21.2.1.2.1,(y21.2.1.2.2.1,(y21.2.1.2.2.2.1,(y21.2.1.2.2.2.2.1,(y21.2.1.2.2.2.2.2.1,(y21.2.1.2.2.2.2.2.2.1,((),((),(y21.2.1.2.2.2.2.2.2.2.2.2.1,((y21.2.1.2.2.2.2.2.2.2.2.2.2.1++(((zap (y21.1.2.1+1)),(([]:List UInt8),(([]:List UInt8),(([]:List UInt8),(0,false))))):: [])),()))))))))))),(y21.2.2.1,(y21.2.2.2.1,()))))
   else none
   | .inr y22=>
   some ((y22.1.1,()),((y22.2.1.1,(y22.2.1.2.1,(y22.2.1.2.2.1,(y22.2.1.2.2.2.1,(y22.2.1.2.2.2.2.1,(y22.2.1.2.2.2.2.2.1,(y22.2.1.2.2.2.2.2.2.1,((),((),(y22.2.1.2.2.2.2.2.2.2.2.2.1,(y22.2.1.2.2.2.2.2.2.2.2.2.2.1,()))))))))))),(y22.2.2.1,(y22.2.2.2.1,()))))
  else none
  else
  bif (room (((List.length y3.2.1.2.2.2.2.2.2.2.2.2.2.1)+(List.length (((5:Int),(([]:List UInt8),(y4.1,(y3.1.1,((0:Int),((len x0.2.2.2.1)==(0:Int))))))):: [])))*73)) then
  Option.bind (gO Fr (n+10) key deep 5 x0.2.2.2.1 (len x0.2.2.2.1) 0 y3.2.1.1 y3.2.1.2.1 y3.2.1.2.2.1 y3.2.1.2.2.2.1 y3.2.1.2.2.2.2.1 y3.2.1.2.2.2.2.2.1 y3.2.1.2.2.2.2.2.2.1 y3.2.1.2.2.2.2.2.2.2.2.2.1 (y3.2.1.2.2.2.2.2.2.2.2.2.2.1++((5,(([]:List UInt8),(y4.1,(y3.1.1,(0,((len x0.2.2.2.1)==0)))))):: [])) y3.2.2.1 y3.2.2.2.1 x0.1 x0.2.1 x0.2.2.1 x0.2.2.2.1 x0.2.2.2.2) fun y23=>
  match y23 with
  | .inl y24=>
   bif (room (((List.length y24.2.1.2.2.2.2.2.2.2.2.2.2.1)+(List.length (((zap (y24.1.2.1+(1:Int))),(([]:List UInt8),(([]:List UInt8),(([]:List UInt8),((0:Int),false))))):: [])))*73)) then
   some ((0,()),((y24.2.1.1,(y24.2.1.2.1,(y24.2.1.2.2.1,(y24.2.1.2.2.2.1,(y24.2.1.2.2.2.2.1,(y24.2.1.2.2.2.2.2.1,(y24.2.1.2.2.2.2.2.2.1,((),((),(y24.2.1.2.2.2.2.2.2.2.2.2.1,((y24.2.1.2.2.2.2.2.2.2.2.2.2.1++(((zap (y24.1.2.1+1)),(([]:List UInt8),(([]:List UInt8),(([]:List UInt8),(0,false))))):: [])),()))))))))))),(y24.2.2.1,(y24.2.2.2.1,()))))
   else none
  | .inr y25=>
   some ((y25.1.1,()),((y25.2.1.1,(y25.2.1.2.1,(y25.2.1.2.2.1,(y25.2.1.2.2.2.1,(y25.2.1.2.2.2.2.1,(y25.2.1.2.2.2.2.2.1,(y25.2.1.2.2.2.2.2.2.1,((),((),(y25.2.1.2.2.2.2.2.2.2.2.2.1,(y25.2.1.2.2.2.2.2.2.2.2.2.2.1,()))))))))))),(y25.2.2.1,(y25.2.2.2.1,()))))
  else none
 else
 Option.bind (ow (n+9) x0.1 x0.2.1) fun y26=>
 bif y3.2.1.2.2.2.2.2.1 then
  bif (room (((List.length y3.2.1.2.2.2.2.2.2.2.2.2.2.1)+(List.length (((3:Int),(([]:List UInt8),(y26.1,(y3.1.1,((0:Int),true))))):: [])))*73)) then
  Option.bind (gO Fr (n+10) key deep 3 x0.2.2.2.1 (len x0.2.2.2.1) 0 y3.2.1.1 y3.2.1.2.1 y3.2.1.2.2.1 y3.2.1.2.2.2.1 y3.2.1.2.2.2.2.1 y3.2.1.2.2.2.2.2.1 y3.2.1.2.2.2.2.2.2.1 y3.2.1.2.2.2.2.2.2.2.2.2.1 (y3.2.1.2.2.2.2.2.2.2.2.2.2.1++((3,(([]:List UInt8),(y26.1,(y3.1.1,(0,true))))):: [])) y3.2.2.1 y3.2.2.2.1 x0.1 x0.2.1 x0.2.2.1 x0.2.2.2.1 x0.2.2.2.2) fun y27=>
  match y27 with
  | .inl y28=>
   bif (room (((List.length y28.2.1.2.2.2.2.2.2.2.2.2.2.1)+(List.length (((zap (y28.1.2.1+(1:Int))),(([]:List UInt8),(([]:List UInt8),(([]:List UInt8),((0:Int),false))))):: [])))*73)) then
   some ((0,()),((y28.2.1.1,(y28.2.1.2.1,(y28.2.1.2.2.1,(y28.2.1.2.2.2.1,(y28.2.1.2.2.2.2.1,(y28.2.1.2.2.2.2.2.1,(y28.2.1.2.2.2.2.2.2.1,((),((),(y28.2.1.2.2.2.2.2.2.2.2.2.1,((y28.2.1.2.2.2.2.2.2.2.2.2.2.1++(((zap (y28.1.2.1+1)),(([]:List UInt8),(([]:List UInt8),(([]:List UInt8),(0,false))))):: [])),()))))))))))),(y28.2.2.1,(y28.2.2.2.1,()))))
   else none
  | .inr y29=>
   some ((y29.1.1,()),((y29.2.1.1,(y29.2.1.2.1,(y29.2.1.2.2.1,(y29.2.1.2.2.2.1,(y29.2.1.2.2.2.2.1,(y29.2.1.2.2.2.2.2.1,(y29.2.1.2.2.2.2.2.2.1,((),((),(y29.2.1.2.2.2.2.2.2.2.2.2.1,(y29.2.1.2.2.2.2.2.2.2.2.2.2.1,()))))))))))),(y29.2.2.1,(y29.2.2.2.1,()))))
  else none
 else
 bif key then
  bif (room (((List.length y3.2.1.2.2.2.2.2.2.2.2.2.2.1)+(List.length (((3:Int),(([]:List UInt8),(y26.1,(y3.1.1,((0:Int),true))))):: [])))*73)) then
  Option.bind (gO Fr (n+10) key deep 3 x0.2.2.2.1 (len x0.2.2.2.1) 0 y3.2.1.1 y3.2.1.2.1 y3.2.1.2.2.1 y3.2.1.2.2.2.1 y3.2.1.2.2.2.2.1 y3.2.1.2.2.2.2.2.1 y3.2.1.2.2.2.2.2.2.1 y3.2.1.2.2.2.2.2.2.2.2.2.1 (y3.2.1.2.2.2.2.2.2.2.2.2.2.1++((3,(([]:List UInt8),(y26.1,(y3.1.1,(0,true))))):: [])) y3.2.2.1 y3.2.2.2.1 x0.1 x0.2.1 x0.2.2.1 x0.2.2.2.1 x0.2.2.2.2) fun y30=>
  match y30 with
  | .inl y31=>
   bif (room (((List.length y31.2.1.2.2.2.2.2.2.2.2.2.2.1)+(List.length (((zap (y31.1.2.1+(1:Int))),(([]:List UInt8),(([]:List UInt8),(([]:List UInt8),((0:Int),false))))):: [])))*73)) then
   some ((0,()),((y31.2.1.1,(y31.2.1.2.1,(y31.2.1.2.2.1,(y31.2.1.2.2.2.1,(y31.2.1.2.2.2.2.1,(y31.2.1.2.2.2.2.2.1,(y31.2.1.2.2.2.2.2.2.1,((),((),(y31.2.1.2.2.2.2.2.2.2.2.2.1,((y31.2.1.2.2.2.2.2.2.2.2.2.2.1++(((zap (y31.1.2.1+1)),(([]:List UInt8),(([]:List UInt8),(([]:List UInt8),(0,false))))):: [])),()))))))))))),(y31.2.2.1,(y31.2.2.2.1,()))))
   else none
  | .inr y32=>
   some ((y32.1.1,()),((y32.2.1.1,(y32.2.1.2.1,(y32.2.1.2.2.1,(y32.2.1.2.2.2.1,(y32.2.1.2.2.2.2.1,(y32.2.1.2.2.2.2.2.1,(y32.2.1.2.2.2.2.2.2.1,((),((),(y32.2.1.2.2.2.2.2.2.2.2.2.1,(y32.2.1.2.2.2.2.2.2.2.2.2.2.1,()))))))))))),(y32.2.2.1,(y32.2.2.2.1,()))))
  else none
 else
 bif (room (((List.length y3.2.1.2.2.2.2.2.2.2.2.2.2.1)+(List.length (((3:Int),(([]:List UInt8),(y26.1,(y3.1.1,((0:Int),((len x0.2.2.2.1)==(0:Int))))))):: [])))*73)) then
 Option.bind (gO Fr (n+10) key deep 3 x0.2.2.2.1 (len x0.2.2.2.1) 0 y3.2.1.1 y3.2.1.2.1 y3.2.1.2.2.1 y3.2.1.2.2.2.1 y3.2.1.2.2.2.2.1 y3.2.1.2.2.2.2.2.1 y3.2.1.2.2.2.2.2.2.1 y3.2.1.2.2.2.2.2.2.2.2.2.1 (y3.2.1.2.2.2.2.2.2.2.2.2.2.1++((3,(([]:List UInt8),(y26.1,(y3.1.1,(0,((len x0.2.2.2.1)==0)))))):: [])) y3.2.2.1 y3.2.2.2.1 x0.1 x0.2.1 x0.2.2.1 x0.2.2.2.1 x0.2.2.2.2) fun y33=>
 match y33 with
  | .inl y34=>
  bif (room (((List.length y34.2.1.2.2.2.2.2.2.2.2.2.2.1)+(List.length (((zap (y34.1.2.1+(1:Int))),(([]:List UInt8),(([]:List UInt8),(([]:List UInt8),((0:Int),false))))):: [])))*73)) then
  some ((0,()),((y34.2.1.1,(y34.2.1.2.1,(y34.2.1.2.2.1,(y34.2.1.2.2.2.1,(y34.2.1.2.2.2.2.1,(y34.2.1.2.2.2.2.2.1,(y34.2.1.2.2.2.2.2.2.1,((),((),(y34.2.1.2.2.2.2.2.2.2.2.2.1,((y34.2.1.2.2.2.2.2.2.2.2.2.2.1++(((zap (y34.1.2.1+1)),(([]:List UInt8),(([]:List UInt8),(([]:List UInt8),(0,false))))):: [])),()))))))))))),(y34.2.2.1,(y34.2.2.2.1,()))))
  else none
  | .inr y35=>
  some ((y35.1.1,()),((y35.2.1.1,(y35.2.1.2.1,(y35.2.1.2.2.1,(y35.2.1.2.2.2.1,(y35.2.1.2.2.2.2.1,(y35.2.1.2.2.2.2.2.1,(y35.2.1.2.2.2.2.2.2.1,((),((),(y35.2.1.2.2.2.2.2.2.2.2.2.1,(y35.2.1.2.2.2.2.2.2.2.2.2.2.1,()))))))))))),(y35.2.2.1,(y35.2.2.2.1,()))))
 else none
 else
 bif y3.2.1.2.2.2.2.2.1 then
 Option.bind (qn n (x0.1,(x0.2.1,(x0.2.2.1,(x0.2.2.2.1,x0.2.2.2.2)))) true y3.2.1.1 y3.2.1.2.1 y3.2.1.2.2.1 y3.2.1.2.2.2.1 y3.2.1.2.2.2.2.1 y3.2.1.2.2.2.2.2.1 y3.2.1.2.2.2.2.2.2.1 y3.2.1.2.2.2.2.2.2.2.2.2.1 y3.2.1.2.2.2.2.2.2.2.2.2.2.1 y3.2.2.1 y3.2.2.2.1) fun y36=>
 bif (room (((List.length y36.2.1.2.2.2.2.2.2.2.2.2.2.1)+(List.length ((y36.1.1.1,(y36.1.1.2.1,(y36.1.1.2.2.1,(y3.1.1,(y36.1.1.2.2.2.2.1,y36.1.1.2.2.2.2.2))))):: [])))*73)) then
 some ((0,()),((y36.2.1.1,(y36.2.1.2.1,(y36.2.1.2.2.1,(y36.2.1.2.2.2.1,(y36.2.1.2.2.2.2.1,(y36.2.1.2.2.2.2.2.1,(y36.2.1.2.2.2.2.2.2.1,((),((),(y36.2.1.2.2.2.2.2.2.2.2.2.1,((y36.2.1.2.2.2.2.2.2.2.2.2.2.1++((y36.1.1.1,(y36.1.1.2.1,(y36.1.1.2.2.1,(y3.1.1,(y36.1.1.2.2.2.2.1,y36.1.1.2.2.2.2.2))))):: [])),()))))))))))),(y36.2.2.1,(y36.2.2.2.1,()))))
 else none
 else
 Option.bind (qn n (x0.1,(x0.2.1,(x0.2.2.1,(x0.2.2.2.1,x0.2.2.2.2)))) key y3.2.1.1 y3.2.1.2.1 y3.2.1.2.2.1 y3.2.1.2.2.2.1 y3.2.1.2.2.2.2.1 y3.2.1.2.2.2.2.2.1 y3.2.1.2.2.2.2.2.2.1 y3.2.1.2.2.2.2.2.2.2.2.2.1 y3.2.1.2.2.2.2.2.2.2.2.2.2.1 y3.2.2.1 y3.2.2.2.1) fun y37=>
 bif (room (((List.length y37.2.1.2.2.2.2.2.2.2.2.2.2.1)+(List.length ((y37.1.1.1,(y37.1.1.2.1,(y37.1.1.2.2.1,(y3.1.1,(y37.1.1.2.2.2.2.1,y37.1.1.2.2.2.2.2))))):: [])))*73)) then
 some ((0,()),((y37.2.1.1,(y37.2.1.2.1,(y37.2.1.2.2.1,(y37.2.1.2.2.2.1,(y37.2.1.2.2.2.2.1,(y37.2.1.2.2.2.2.2.1,(y37.2.1.2.2.2.2.2.2.1,((),((),(y37.2.1.2.2.2.2.2.2.2.2.2.1,((y37.2.1.2.2.2.2.2.2.2.2.2.2.1++((y37.1.1.1,(y37.1.1.2.1,(y37.1.1.2.2.1,(y3.1.1,(y37.1.1.2.2.2.2.1,y37.1.1.2.2.2.2.2))))):: [])),()))))))))))),(y37.2.2.1,(y37.2.2.2.1,()))))
 else none
 else none
noncomputable def Pa (Fr:Nat->Int->Bool->Int->qN->(List Int)->Int->Int->Int->Bool->Bool->Int->qE->(List (Int×Int))->qM->Option ((Int×Unit)×((qN×((List Int)×(Int×(Int×(Int×(Bool×(Bool×(Unit×(Unit×(Int×(qE×Unit)))))))))))×((List (Int×Int))×(qM×Unit))))):er:=fe 12 (fun n x=>CP Fr n x.1.1 x.1.2.1 x.1.2.2.1 x.2.1.1 x.2.1.2.1 x.2.1.2.2.1 x.2.1.2.2.2.1 x.2.1.2.2.2.2.1 x.2.1.2.2.2.2.2.1 x.2.1.2.2.2.2.2.2.1 x.2.1.2.2.2.2.2.2.2.2.2.1 x.2.1.2.2.2.2.2.2.2.2.2.2.1 x.2.2.1 x.2.2.2.1)
theorem QS (Fr:Nat->Int->Bool->Int->qN->(List Int)->Int->Int->Int->Bool->Bool->Int->qE->(List (Int×Int))->qM->Option ((Int×Unit)×((qN×((List Int)×(Int×(Int×(Int×(Bool×(Bool×(Unit×(Unit×(Int×(qE×Unit)))))))))))×((List (Int×Int))×(qM×Unit))))) (hFr:∀ m,dh Tryz.prog hint aI (DM Fr) m) (n:Nat):dh Tryz.prog hint aI (Pa Fr) n:=
 dh.of (hk:=fun β=>(aq.mk [rl] [(Eb Fr)]).WA [xp,yD] β) (sh:=aI) (LN _ _) (fun m _=>ab.PU ((ab.nil.fn BO).loop (OH Fr hFr) yE) ((kJ.nil.fn I4 (EB _ _)).fn HP (F3 _ _)) m) (fun x s=>by kernel_rfl)
noncomputable def jv:Nat->Nat->Int->Bool->Int->qN->(List Int)->Int->Int->Int->Bool->Bool->Int->qE->(List (Int×Int))->qM->Option ((Int×Unit)×((qN×((List Int)×(Int×(Int×(Int×(Bool×(Bool×(Unit×(Unit×(Int×(qE×Unit)))))))))))×((List (Int×Int))×(qM×Unit))))
 |0,_,_,_,_,_,_,_,_,_,_,_,_,_,_,_=>none
 |d+1,n,i,key,deep,c64_0,c64_1,c64_2,c64_3,c64_4,c64_5,c64_6,c64_9,c64_10,m65,m66=>bif Nat.ble 12 n then CP (jv d) (n - 12) i key deep c64_0 c64_1 c64_2 c64_3 c64_4 c64_5 c64_6 c64_9 c64_10 m65 m66 else none
noncomputable def R4 (n:Nat) (i:Int) (key:Bool) (deep:Int) (c64_0:qN) (c64_1:(List Int)) (c64_2:Int) (c64_3:Int) (c64_4:Int) (c64_5:Bool) (c64_6:Bool) (c64_9:Int) (c64_10:qE) (m65:(List (Int×Int))) (m66:qM):Option ((Int×Unit)×((qN×((List Int)×(Int×(Int×(Int×(Bool×(Bool×(Unit×(Unit×(Int×(qE×Unit)))))))))))×((List (Int×Int))×(qM×Unit)))):=jv n n i key deep c64_0 c64_1 c64_2 c64_3 c64_4 c64_5 c64_6 c64_9 c64_10 m65 m66
noncomputable def Lb:er:=fe 0 (fun n x=>R4 n x.1.1 x.1.2.1 x.1.2.2.1 x.2.1.1 x.2.1.2.1 x.2.1.2.2.1 x.2.1.2.2.2.1 x.2.1.2.2.2.2.1 x.2.1.2.2.2.2.2.1 x.2.1.2.2.2.2.2.2.1 x.2.1.2.2.2.2.2.2.2.2.2.1 x.2.1.2.2.2.2.2.2.2.2.2.2.1 x.2.2.1 x.2.2.2.1)
theorem Tg (n:Nat):dh Tryz.prog hint aI Lb n:=
 dh.diag (it:=fe 0 fun _ _=>none) (fun d n x=>jv d n x.1.1 x.1.2.1 x.1.2.2.1 x.2.1.1 x.2.1.2.1 x.2.1.2.2.1 x.2.1.2.2.2.1 x.2.1.2.2.2.2.1 x.2.1.2.2.2.2.2.1 x.2.1.2.2.2.2.2.2.1 x.2.1.2.2.2.2.2.2.2.2.2.1 x.2.1.2.2.2.2.2.2.2.2.2.2.1 x.2.2.1 x.2.2.2.1) (dh.Kg (it:=fe 0 fun _ _=>none) (D:=12) (fun G n x=>CP (fun n i key deep c64_0 c64_1 c64_2 c64_3 c64_4 c64_5 c64_6 c64_9 c64_10 m65 m66=>G n ((i,(key,(deep,()))),((c64_0,(c64_1,(c64_2,(c64_3,(c64_4,(c64_5,(c64_6,((),((),(c64_9,(c64_10,()))))))))))),(m65,(m66,()))))) n x.1.1 x.1.2.1 x.1.2.2.1 x.2.1.1 x.2.1.2.1 x.2.1.2.2.1 x.2.1.2.2.2.1 x.2.1.2.2.2.2.1 x.2.1.2.2.2.2.2.1 x.2.1.2.2.2.2.2.2.1 x.2.1.2.2.2.2.2.2.2.2.2.1 x.2.1.2.2.2.2.2.2.2.2.2.2.1 x.2.2.1 x.2.2.2.1) _ (fun _ _=>rfl) (fun _ _ _=>rfl) (fun G h n=>QS (fun n i key deep c64_0 c64_1 c64_2 c64_3 c64_4 c64_5 c64_6 c64_9 c64_10 m65 m66=>G n ((i,(key,(deep,()))),((c64_0,(c64_1,(c64_2,(c64_3,(c64_4,(c64_5,(c64_6,((),((),(c64_9,(c64_10,()))))))))))),(m65,(m66,()))))) h n)) n
set_option maxRecDepth 10000
theorem VI {α:Type} (c:Bool) (a:α) (y:Option α) (h:∃ z,y=some z):∃ z,(bif c then some a else y)=some z:=by cases c;exact h;exact ⟨_,rfl⟩
theorem I7 (n:Nat) (s:List UInt8):∃ b,J1 n s=some (b,()):=by
 unfold J1;simp only [TM,zaa];exact ⟨_,rfl⟩
theorem Fe (n:Nat) (s:List UInt8):∃ b,CX n s=some b:=by
 unfold CX;exact VI _ _ _ (VI _ _ _ (VI _ _ _ (VI _ _ _ (VI _ _ _ (VI _ _ _ ⟨_,rfl⟩)))))
theorem Mm (n:Nat) (s:List UInt8) (hs:s.length<=8100) (hn:27000<=n):∃ t,core n s=some (t,())/\t.length<=5:=by
 unfold core;obtain ⟨b,hb⟩:=Fe (n+5) s;obtain ⟨c,hc⟩:=I7 (n+5) s;rw [hb,V.Rl n s hn,V.IG n s hs hn,hc];simp only [zaa];cases c with
 |true=>exact ⟨_,rfl,by simp⟩
 |false=>
  cases b.2.1 with
  |true=>exact ⟨_,rfl,by simp⟩
  |false=>
   cases (V.iv s).2.1 with
   |true=>exact ⟨_,rfl,by simp⟩
   |false=>
    cases (V.fl s).2.1 with
    |true=>exact ⟨_,rfl,by simp⟩
    |false=>exact ⟨_,rfl,by simp⟩
theorem NC (n:Nat) (k:Int):∃ t,OE n k=some (t,()):=by
 unfold OE;have ex2:∀ (c:Bool) (a:List UInt8) (y:Option (List UInt8×Unit)),(∃ z,y=some (z,()))->∃ z,(bif c then some (a,()) else y)=some (z,()):=by
  intro c a y h;cases c;exact h;exact ⟨_,rfl⟩
 exact ex2 _ _ _ (ex2 _ _ _ (ex2 _ _ _ ⟨_,rfl⟩))
theorem ur (n:Nat) (k:Int) (s:List UInt8):∃ t,ow n k s=some (t,())/\(t= []∨t=s):=by
 unfold ow;obtain ⟨d,hd⟩:=NC n k;rw [hd];simp only [zaa];cases s==d with
 |true=>exact ⟨_,rfl,.inl rfl⟩
 |false=>exact ⟨_,rfl,.inr rfl⟩
abbrev NL:=Int×(List UInt8×(List UInt8×(List Int×Bool)))
abbrev Xn:=(List NL×(List Int×(Int×(Int×(Int×(Bool×(Bool×(Unit×(Unit×(Int×(List cV×Unit)))))))))))×(List (Int×Int)×(List (Int×List UInt8)×Unit))
abbrev Ou (g:List NL) (rt:List Int) (c2 c3 c4:Int) (c5 c6:Bool) (c9:Int) (c10:List cV) (u:List (Int×Int)) (nm:List (Int×List UInt8)):Xn:=
 ((g,(rt,(c2,(c3,(c4,(c5,(c6,((),((),(c9,(c10,()))))))))))),(u,(nm,())))
abbrev X7:=Nat->Int->Bool->Int->List NL->List Int->Int->Int->Int->Bool->Bool->Int->List cV->List (Int×Int)->List (Int×List UInt8)->Option ((Int×Unit)×Xn)
theorem Du (n:Nat) (k:Int) (tg s:List UInt8) (kd:List Int) (pl:Bool) (inner:Bool) (hk:k=1) (hs:s.length<=8100) (xs:List Int) (hx:d8 s.length s=some xs) (ht:ft tg=true) (htl:tg.length<=1000) (hn:27000<=n)
  (g:List NL) (rt:List Int) (c2 c3 c4:Int) (c5 c6:Bool) (c9:Int) (out:List cV) (u:List (Int×Int)) (nm:List (Int×List UInt8)):
  ∃ t st,qn n (k,(tg,(s,(kd,pl)))) inner g rt c2 c3 c4 c5 c6 c9 out u nm=some (((7,(s,(t,([],(st,false))))),()),Ou g rt c2 c3 c4 c5 c6 c9 out u nm)/\td t/\qg st s xs inner=true:=by
 subst hk;have hm:=QK n c4 s xs inner (by omega) (by omega) hx;obtain ⟨t,hte,htt⟩:=ur (n+9) 1 tg;have tok:td t:=by
  rcases htt with rfl |rfl
  ·exact .inl rfl
  ·exact .inr ⟨ht,by omega⟩
 obtain ⟨cr,hcr,hcl⟩:=Mm (n+3) s hs (by omega);have rm:room (List.length ([116,97,103,58,121,97,109,108,46,111,114,103,44,50,48,48,50,58]:List UInt8)+List.length cr)=true:=bQ (by simp;omega);have k1:(((1:Int)) !=1)=false:=rfl;unfold qn;simp only [hm,hte,hcr,zaa,rm,zac,k1,zab];cases hb:qg c4 s xs inner with
 |false=>exact ⟨t,3,rfl,tok,xC _ _ _⟩
 |true=>
  simp only [zag,zab];by_cases h4:c4=1
  ·have e:(c4 !=1)=false:=by simp [h4]
   simp only [e,zab];cases (([116,97,103,58,121,97,109,108,46,111,114,103,44,50,48,48,50,58]:List UInt8)++cr)==tg with
   |true=>exact ⟨[],c4,rfl,.inl rfl,hb⟩
   |false=>
    cases t== [] with
    |true=>exact ⟨t,3,rfl,tok,xC _ _ _⟩
    |false=>exact ⟨t,c4,rfl,tok,hb⟩
  ·have e:(c4 !=1)=true:=by simp [h4]
   simp only [e,zac];exact ⟨t,c4,rfl,tok,hb⟩
abbrev KI:Sh:= .int .i64
theorem mH {β:Type} (a:Int) (b:β) (r:List (Int×β)) (z:Int):mX KI ((a,b)::r) z=if z=a then some b else mX KI r z:=by
 show (bif Sh.tW KI z a then some b else mX KI r z)=_
 by_cases h:z=a
 ·rw [if_pos h,show Sh.tW KI z a=true from by subst h;exact beq_self_eq_true z];rfl
 ·rw [if_neg h,show Sh.tW KI z a=false from beq_false_of_ne h];rfl
theorem Ar {β:Type} (a:Int) (b:β) (r:List (Int×β)) (x:Int) (y:β):dq KI ((a,b)::r) x y=if x=a then (x,y)::r else (a,b)::dq KI r x y:=by
 show (bif Sh.tW KI x a then (x,y)::r else (a,b)::dq KI r x y)=_
 by_cases h:x=a
 ·rw [if_pos h,show Sh.tW KI x a=true from by subst h;exact beq_self_eq_true x];rfl
 ·rw [if_neg h,show Sh.tW KI x a=false from beq_false_of_ne h];rfl
theorem AU {β:Type} (x:Int) (y:β) (z:Int):∀ l:List (Int×β),mX KI (dq KI l x y) z=if z=x then some y else mX KI l z:=by
 intro l
 induction l with
 |nil=>exact mH x y [] z
 |cons p r ih=>
  obtain ⟨a,b⟩:=p;rw [Ar,mH];by_cases hxa:x=a
  ·rw [if_pos hxa,mH]
   by_cases h:z=x
   ·rw [if_pos h,if_pos h]
   ·rw [if_neg h,if_neg h,if_neg (fun e=>h (e.trans hxa.symm))]
  ·rw [if_neg hxa,mH,ih]
   by_cases h:z=a
   ·rw [if_pos h,if_pos h,if_neg (fun e=>hxa (e.symm.trans h))]
   ·rw [if_neg h,if_neg h]
theorem iK {β:Type} (l:List (Int×β)) (x:Int) (y:β) (z:Int) (d:β):dD KI (dq KI l x y) z d=if z=x then y else dD KI l z d:=by
 unfold dD;rw [AU];split<;>rfl
theorem Ly {β:Type} (l:List (Int×β)) (x:Int) (y:β) (z:Int):z8 KI (dq KI l x y) z=(decide (z=x) ||z8 KI l z):=by
 unfold z8;rw [AU];by_cases h:z=x<;>simp [h]
theorem To {β:Type} (x:Int) (y:β):∀ l:List (Int×β),(dq KI l x y).length<=l.length+1:=by
 intro l
 induction l with
 |nil=>exact zam _
 |cons p r ih=>
  obtain ⟨a,b⟩:=p;rw [Ar];split
  ·simp
  ·simp only [zad];omega
set_option maxRecDepth 10000
theorem tC.one {F key m odd:Bool} {d:Nat} {w:List cV} (h:tC F (key ||(m && !odd)) false false d 1 w):tC F key m odd d 1 w:=by
 generalize hk:(1:Nat)=k at h;cases h with
 |nil=>cases hk
 |@leaf _ _ _ _ k e r h1 h2=>
  have:k=0:=by omega
  subst this;cases h2;simp only [Bool.not_false,Bool.and_true,Bool.false_and,Bool.or_false] at h1;exact .leaf h1 .nil
 |@pT _ _ _ d k m2 k2 e w r h1 h2 h3 h4=>
  have:k=0:=by omega
  subst this;cases h4;simp only [Bool.false_and,Bool.or_false] at h1 h3;exact .pT h1 h2 h3 .nil
def rN (c9:Int) (out:List cV):Int:=out.length+402*(20001 - c9)
def OK (c9:Int) (nm:List (Int×List UInt8)):Prop:=(nm.length:Int)<=c9/\∀ x,z8 KI nm x=true->∃ k,k<=1000000/\dD KI nm x []=D5 k
structure BC (N:Nat) (x:NL):Prop where
 tag:ft x.2.1=true
 tl:x.2.1.length<=1000
 kl:x.2.2.2.1.length<=400
 kr:∀ c∈x.2.2.2.1,0<=c/\c<(N:Int)
 sc:x.1=1->x.2.2.1.length<=8100/\∃ xs,d8 x.2.2.1.length x.2.2.1=some xs
 kd:x.1=1∨x.1=2∨x.1=3
 ev:x.1=3->x.2.2.2.1.length%2=0
section
variable (g:List NL) (rt:List Int) (c2 c3 c4:Int) (c5 c6:Bool) (u:List (Int×Int))
def iG (key:Bool) (d:Nat) (c9:Int) (out:List cV) (r:Option ((Int×Unit)×Xn)):Prop:=
 ∃ e c9' out' nm',r=some ((e,()),Ou g rt c2 c3 c4 c5 c6 c9' out' u nm')/\c9<=c9'/\c9'<=20001/\rN c9' out'<=rN c9 out+1/\
  (e=0->c9'<=20000/\OK c9' nm'/\∃ w,out'=out++w/\tC c5 key false false d 1 w)
def Q8 (Fr:X7) (n0:Nat) (deep:Int) (d:Nat):Prop:=∀ (n:Nat) (i:Int) (key:Bool) (c9:Int) (out:List cV) (nm:List (Int×List UInt8)),n0<=n->0<=i->i<(g.length:Int)->0<=c9->c9<=20000->rN c9 out<=1000000000->OK c9 nm->
 iG g rt c2 c3 c4 c5 c6 u key d c9 out (Fr n i key deep g rt c2 c3 c4 c5 c6 c9 out u nm)
theorem Jf (Fr:X7) (n0 d:Nat) (deep:Int) (hdp:0<=deep/\deep<=200) (hF:Q8 g rt c2 c3 c4 c5 c6 u Fr n0 (deep+1) d) (key:Bool) (t11 a0:Int) (a1 a2:List UInt8) (ks:List Int) (a4:Bool) (hks:∀ c∈ks,0<=c/\c<(g.length:Int)) (hkl:ks.length<=400):
  ∀ (r n t:Nat) (c9:Int) (out:List cV) (nm:List (Int×List UInt8)),t+r=ks.length->n0+r+1<=n->0<=c9->c9<=20000->rN c9 out+r<=1000000000->OK c9 nm->
  ∃ res,gO Fr n key deep t11 ks (len ks) (t:Int) g rt c2 c3 c4 c5 c6 c9 out u nm a0 a1 a2 ks a4=some res/\
   (
    (∃ e c9' out' nm',res= .inr ((e,()),((g,(rt,(c2,(c3,(c4,(c5,(c6,((),((),(c9',(out',()))))))))))),(u,(nm',((a0,(a1,(a2,(ks,(a4,()))))),())))))/\e≠0/\c9<=c9'/\c9'<=20001/\rN c9' out'<=rN c9 out+r)∨
    (∃ c9' out' nm' w,res= .inl (((),(t11,())),((g,(rt,(c2,(c3,(c4,(c5,(c6,((),((),(c9',(out',()))))))))))),(u,(nm',((a0,(a1,(a2,(ks,(a4,()))))),())))))/\out'=out++w/\tC c5 key (a0==3) (decide (t%2=1)) d r w/\c9<=c9'/\c9'<=20000/\OK c9' nm'/\rN c9' out'<=rN c9 out+r)):=by
 intro r
 induction r with
 |zero=>
  intro n t c9 out nm h1 hn h0 h9 hp hi;obtain ⟨n,rfl⟩:∃ k,n=k+1:=⟨n - 1,by omega⟩;refine ⟨_,by simp only [gO,aR (show len ks<=(t:Int) by unfold len;omega),zab],.inr ⟨c9,out,nm,[],rfl,by simp,.nil,Int.le_refl _,h9,hi,by simp⟩⟩
 |succ r ih=>
  intro n t c9 out nm h1 hn h0 h9 hp hi;obtain ⟨n,rfl⟩:∃ k,n=k+1:=⟨n - 1,by omega⟩;have hlt:t<ks.length:=by omega
  have e0:(Int.toNat (t:Int))=t:=rfl;have hx:ks[t]? =some ks[t]:=zan hlt;have hc:=hks _ (List.getElem_mem hlt);generalize ks[t]=c at hx hc;have w1:zap ((t:Int)+1)=((t+1:Nat):Int):=by rw [af]<;>omega
  have w2:zap (deep+1)=deep+1:=af (by omega) (by omega);have md:(Int.tmod (t:Int) 2==0)= !decide (t%2=1):=by
   rw [Int.tmod_eq_emod_of_nonneg (by omega),kp,Bool.eq_iff_iff];simp;omega
  have par:(!decide (t%2=1))=decide ((t+1)%2=1):=by
   rw [Bool.eq_iff_iff];simp;omega
  obtain ⟨e,c9',out',nm',hq,g1,g1',g2,g3⟩:=hF (n+1) c (key ||((a0==3) && !decide (t%2=1))) c9 out nm (by omega) hc.1 hc.2 h0 h9 (by omega) hi
  have red:gO Fr (n+1) key deep t11 ks (len ks) (t:Int) g rt c2 c3 c4 c5 c6 c9 out u nm a0 a1 a2 ks a4=
    (
     bif (e !=0) then some (.inr ((e,()),((g,(rt,(c2,(c3,(c4,(c5,(c6,((),((),(c9',(out',()))))))))))),(u,(nm',((a0,(a1,(a2,(ks,(a4,()))))),()))))))
     else gO Fr n key deep t11 ks (len ks) ((t+1:Nat):Int) g rt c2 c3 c4 c5 c6 c9' out' u nm' a0 a1 a2 ks a4):=by
   conv=>lhs;rw [gO]
   simp only [aB (show (t:Int)<len ks by unfold len;omega),ao (show (0:Int)<=(t:Int) by omega),zac,e0,hx,zaa,w1,w2,md];cases key with
   |true=>
    simp only [Bool.true_or] at hq;simp only [zac,hq,zaa]
   |false=>
    simp only [Bool.false_or] at hq;simp only [zab];cases h3:(a0==3) with
    |true=>
     rw [h3] at hq;simp only [zak] at hq;simp only [zac,hq,zaa]
    |false=>
     rw [h3] at hq;simp only [Bool.false_and] at hq;simp only [zab,hq,zaa]
  rw [red];by_cases he:e=0
  ·have:(e !=0)=false:=by simp [he]
   rw [this,zab];obtain ⟨g4,g5,w,g6,g7⟩:=g3 he;obtain ⟨res,hr,hh⟩:=ih n (t+1) c9' out' nm' (by omega) (by omega) (by omega) g4 (by omega) g5;refine ⟨res,hr,?_⟩;rcases hh with ⟨e,c9'',out'',nm'',q1,q2,q3,q3',q4⟩ |⟨c9'',out'',nm'',w',q1,q2,q3,q4,q5,q6,q7⟩
   ·exact .inl ⟨e,c9'',out'',nm'',q1,q2,by omega,q3',by omega⟩
   ·refine .inr ⟨c9'',out'',nm'',w++w',q1,by rw [q2,g6,List.append_assoc],?_,by omega,q5,q6,by omega⟩
    rw [show r+1=1+r by omega];refine g7.one.snoc ?_;have:(decide (t%2=1) !=decide (1%2=1))=decide ((t+1)%2=1):=by
     rw [←par];cases decide (t%2=1)<;>rfl
    rw [this];exact q3
  ·have:(e !=0)=true:=by simp [he]
   rw [this,zac];exact ⟨_,rfl,.inl ⟨e,c9',out',nm',rfl,he,g1,g1',by omega⟩⟩
end
set_option maxRecDepth 10000
theorem NQ {i:Int} (h0:0<=i) (h1:i<1000000000):Ji i=true:=by
 unfold Ji;rw [Go.Iv.dc,Go.Iv.dc];simp only [zae,decide_eq_true_eq];omega
section
variable (g:List NL) (rt:List Int) (c2 c3 c4:Int) (c5 c6:Bool) (u:List (Int×Int))
theorem Fb (n:Nat) (i c9:Int) (out:List cV) (nm:List (Int×List UInt8)) (h:(nm.length:Int)+1<=c9) (hc:c9<=20001) (hi:∀ x,z8 KI nm x=true->∃ k,k<=1000000/\dD KI nm x []=D5 k):
  ∃ a nm',vt n i g rt c2 c3 c4 c5 c6 c9 out u nm=some ((a,()),Ou g rt c2 c3 c4 c5 c6 c9 out u nm')/\AE a/\OK c9 nm':=by
 have w:zap (len nm+1)=((nm.length+1:Nat):Int):=by
  unfold len;rw [af]<;>omega
 have hb:Ji ((nm.length+1:Nat):Int)=true:=NQ (by omega) (by omega);have hl:=KH (k:=nm.length+1) (by omega);have rm:room (List.length ([97]:List UInt8)+List.length (Go.Lib.itoa ((nm.length+1:Nat):Int)))=true:=bQ (by
  unfold D5 at hl;rw [zaf] at hl;omega)
 have hv:([97]:List UInt8)++Go.Lib.itoa ((nm.length+1:Nat):Int)=D5 (nm.length+1):=rfl;unfold vt;cases aX (dD KI u i 0) 2 with
 |true=>exact ⟨[],nm,rfl,.inl rfl,by omega,hi⟩
 |false=>
  simp only [zab,w,hb,rm,zac,hv];refine ⟨_,_,rfl,?_,?_,?_⟩
  ·rw [iK,if_pos rfl]
   exact .inr ⟨_,by omega,rfl⟩
  ·have:=To i (D5 (nm.length+1)) nm
   show (((dq KI nm i (D5 (nm.length+1))).length:Nat):Int)<=c9
   omega
  ·intro x hx
   rw [iK];by_cases hxi:x=i
   ·rw [if_pos hxi];exact ⟨_,by omega,rfl⟩
   ·rw [if_neg hxi]
    rw [Ly,decide_eq_false hxi,Bool.false_or] at hx;exact hi x hx
theorem iu (c9:Int) (out:List cV) (e:cV):rN c9 (out++ [e])=rN c9 out+1:=by
 unfold rN;simp;omega
theorem CA (c9:Int) (out:List cV):rN (c9+1) out=rN c9 out - 402:=by unfold rN;omega
theorem Kf {c9:Int} {out:List cV} (h:rN c9 out<=1000001000) (h9:c9<=20001):out.length<=1000001000:=by unfold rN at h;omega
theorem AB (hg:∀ (j:Nat) x,g[j]? =some x->BC g.length x) (dd:Nat):∀ D:Nat,(dd=0∨∃ d',dd=d'+1/\Q8 g rt c2 c3 c4 c5 c6 u (jv D) (27200+420*d') (200 - (dd:Int)+1) d')->dd<=200->Q8 g rt c2 c3 c4 c5 c6 u (jv (D+1)) (27200+420*dd) (200 - (dd:Int)) dd:=by
  intro D hrec hdd n i key c9 out nm hn hi0 hi1 h0 h9 hp hI;have hb:Nat.ble 12 n=true:=Nat.ble_eq_true_of_le (by omega);have hol:=Kf (show rN c9 out<=1000001000 by omega) (by omega);rw [jv,hb,zac];unfold CP;cases hh:z8 KI nm i with
  |true=>
   obtain ⟨k,hk,hkv⟩:=hI.2 i hh;have rm:∀ e:cV,room ((out.length+List.length (e::([]:List cV)))*73)=true:=fun e=>bQ (by simp;omega)
   simp only [hh,zac,rm,hkv];refine ⟨0,c9,_,nm,rfl,Int.le_refl _,by omega,?_,fun _=>⟨h9,hI,[_],rfl,.leaf (.inl ⟨k,hk,rfl⟩) .nil⟩⟩;rw [iu];exact Int.le_refl _
  |false=>
   have hlt:i.toNat<g.length:=by omega
   have hx:g[i.toNat]? =some g[i.toNat]:=zan hlt;have ok:=hg _ _ hx;generalize g[i.toNat]=x at hx ok;obtain ⟨k0,tg,s,ks,pl⟩:=x;have w9:zap (c9+1)=c9+1:=af (by omega) (by omega);have otag:=ok.tag;have otl:=ok.tl;have okl:=ok.kl;have okr:=ok.kr;have osc:=ok.sc;have OP:=ok.kd;have oev:=ok.ev;simp only at otag otl okl okr osc OP oev;simp only [hh,zab,ao hi0,zac,hx,zaa,w9];have b2:(bif (k0 !=(1:Int)) then some (200 - (dd:Int)==(200:Int)) else some false:Option Bool)=some (decide (k0≠1) &&decide (dd=0)):=by
    have e1:(k0 !=(1:Int))=decide (k0≠1):=VD _ _;have e2:((200 - (dd:Int))==200)=decide (dd=0):=by rw [kp,decide_eq_decide];omega
    rw [e1,e2];cases decide (k0≠1)<;>rfl
   rw [b2];simp only [zaa];cases hdeep:(decide (k0≠1) &&decide (dd=0)) with
   |true=>
    exact ⟨8,c9,out,nm,rfl,Int.le_refl _,by omega,by omega,fun h=>absurd h (by decide)⟩
   |false=>
    simp only [zab];by_cases hmany:c9+1>20000
    ·rw [aB hmany,zac]
     exact ⟨9,c9+1,out,nm,rfl,by omega,by omega,by rw [CA];omega,fun h=>absurd h (by decide)⟩
    rw [aR (by omega),zab];obtain ⟨a,nm',han,haok,hI'⟩:=Fb g rt c2 c3 c4 c5 c6 u (n - 12+10) i (c9+1) out nm (by have:=hI.1;omega) (by omega) hI.2;rw [han];simp only [zaa];by_cases hk1:k0=1
    ·-- a scalar
     subst hk1;obtain ⟨hsl,xs,hxs⟩:=osc rfl;have e1:(((1:Int)) !=1)=false:=rfl;simp only [e1,zab];have rm:∀ e:cV,room ((out.length+List.length (e::([]:List cV)))*73)=true:=fun e=>bQ (by simp;omega)
     obtain ⟨t,st,hsc,htok,hmy⟩:=Du (n - 12) 1 tg s ks pl (c5 ||key) rfl hsl xs hxs otag otl (by omega) g rt c2 c3 c4 c5 c6 (c9+1) out u nm';have fin:iG g rt c2 c3 c4 c5 c6 u key dd c9 out (some ((0,()),Ou g rt c2 c3 c4 c5 c6 (c9+1) (out++ [(7,(s,(t,(a,(st,false)))))]) u nm')):=by
      refine ⟨0,c9+1,_,nm',rfl,by omega,by omega,by rw [iu,CA];omega,fun _=>⟨by omega,hI',[_],rfl,.leaf (.inr ⟨s,t,a,st,xs,rfl,htok,haok,by omega,hxs,?_⟩) .nil⟩⟩;simpa using hmy
     cases c5 with
     |true=>
      simp only [Bool.true_or] at hsc;simp only [zac,hsc,zaa,rm];exact fin
     |false=>
      simp only [Bool.false_or] at hsc;simp only [zab,hsc,zaa,rm,zac];exact fin
    ·-- a collection
     have e1:(k0 !=(1:Int))=true:=by simp [hk1]
     have hdd0:dd≠0:=by
      intro h0';simp [hk1,h0'] at hdeep
     obtain ⟨d',hd',hF⟩:∃ d',dd=d'+1/\Q8 g rt c2 c3 c4 c5 c6 u (jv D) (27200+420*d') (200 - (dd:Int)+1) d':=by
      rcases hrec with h |h
      ·exact absurd h hdd0
      ·exact h
     obtain ⟨t,hte,htt⟩:=ur (n - 12+9) k0 tg;have tok:td t:=by
      rcases htt with rfl |rfl
      ·exact .inl rfl
      ·exact .inr ⟨otag,by omega⟩
     simp only [e1,zac,hte,zaa];have hm:∃ m,(k0==3)=m/\(m=true->ks.length%2=0):=⟨_,rfl,fun h=>oev (eq_of_beq h)⟩;obtain ⟨m,hkm,hev⟩:=hm
     have fin:∀ fl:Bool,fl=((c5 ||key) ||decide (ks.length=0))->
       iG g rt c2 c3 c4 c5 c6 u key dd c9 out
        (bif (room (((List.length out)+(List.length (((eo m),(([]:List UInt8),(t,(a,((0:Int),fl)))))::([]:List cV))))*73)) then
         Option.bind (gO (jv D) (n - 12+10) key (200 - (dd:Int)) (eo m) ks (len ks) (0:Int) g rt c2 c3 c4 c5 c6 (c9+1) (out++(((eo m),(([]:List UInt8),(t,(a,((0:Int),fl))))):: [])) u nm' k0 tg s ks pl) fun y17=>
         match y17 with
          | .inl y18=>
          bif (room (((List.length y18.2.1.2.2.2.2.2.2.2.2.2.2.1)+(List.length (((zap (y18.1.2.1+(1:Int))),(([]:List UInt8),(([]:List UInt8),(([]:List UInt8),((0:Int),false)))))::([]:List cV))))*73)) then
          some (((0:Int),()),((y18.2.1.1,(y18.2.1.2.1,(y18.2.1.2.2.1,(y18.2.1.2.2.2.1,(y18.2.1.2.2.2.2.1,(y18.2.1.2.2.2.2.2.1,(y18.2.1.2.2.2.2.2.2.1,((),((),(y18.2.1.2.2.2.2.2.2.2.2.2.1,((y18.2.1.2.2.2.2.2.2.2.2.2.2.1++(((zap (y18.1.2.1+(1:Int))),(([]:List UInt8),(([]:List UInt8),(([]:List UInt8),((0:Int),false))))):: [])),()))))))))))),(y18.2.2.1,(y18.2.2.2.1,()))))
          else none
          | .inr y19=>
          some ((y19.1.1,()),((y19.2.1.1,(y19.2.1.2.1,(y19.2.1.2.2.1,(y19.2.1.2.2.2.1,(y19.2.1.2.2.2.2.1,(y19.2.1.2.2.2.2.2.1,(y19.2.1.2.2.2.2.2.2.1,((),((),(y19.2.1.2.2.2.2.2.2.2.2.2.1,(y19.2.1.2.2.2.2.2.2.2.2.2.2.1,()))))))))))),(y19.2.2.1,(y19.2.2.2.1,()))))
         else none):=by
      intro fl hfl;have rm:room (((List.length out)+(List.length (((eo m),(([]:List UInt8),(t,(a,((0:Int),fl)))))::([]:List cV))))*73)=true:=bQ (by simp;omega);rw [rm,zac];have p1:rN (c9+1) (out++ [((eo m),(([]:List UInt8),(t,(a,((0:Int),fl)))))])=rN c9 out - 401:=by rw [iu,CA];omega
      obtain ⟨res,hres,hh⟩:=Jf g rt c2 c3 c4 c5 c6 u (jv D) (27200+420*d') d' (200 - (dd:Int)) ⟨by omega,by omega⟩ hF key (eo m) k0 tg s ks pl okr okl ks.length (n - 12+10) 0 (c9+1) (out++ [((eo m),(([]:List UInt8),(t,(a,((0:Int),fl)))))]) nm' (by omega) (by omega) (by omega) (by omega) (by omega) hI';rw [show ((0:Nat):Int)=0 from rfl] at hres;refine (congrArg (fun z=>iG g rt c2 c3 c4 c5 c6 u key dd c9 out (Option.bind z _)) hres).mpr ?_;simp only [zaa];rcases hh with ⟨e,c9',out',nm'',rfl,he,q1,q1',q2⟩ |⟨c9',out',nm'',w,rfl,q1,q2,q3,q4,q5,q6⟩
      ·exact ⟨e,c9',out',nm'',rfl,by omega,q1',by omega,fun h=>absurd h he⟩
      ·have wk:zap (eo m+1)=eo m+1:=by cases m<;>rfl
       have hol':=Kf (c9:=c9') (out:=out') (by omega) (by omega);have rm2:∀ e:cV,room ((out'.length+List.length (e::([]:List cV)))*73)=true:=fun e=>bQ (by simp;omega)
       simp only [wk,rm2,zac];refine ⟨0,c9',_,nm'',rfl,by omega,by omega,by rw [iu];omega,fun _=>⟨q4,q5,((eo m),(([]:List UInt8),(t,(a,((0:Int),fl)))))::(w++ [eE m]),by rw [q1];simp [eE],?_⟩⟩;rw [hd'];rw [hkm] at q2;refine .pT ⟨t,a,by rw [hfl];simp,tok,haok⟩ hev ?_ .nil;simpa using q2
     have z:(len ks==(0:Int))=decide (ks.length=0):=by
      unfold len;rw [kp,decide_eq_decide];omega
     rw [hkm];cases m with
     |true=>
      simp only [zac];cases hc5:c5 with
      |true=>simp only [zac];subst hc5;exact fin true (by simp)
      |false=>
       subst hc5;cases hky:key with
       |true=>simp only [zac,zab];subst hky;exact fin true (by simp)
       |false=>simp only [zab];subst hky;exact fin _ (by rw [z];simp)
     |false=>
      simp only [zab];cases hc5:c5 with
      |true=>simp only [zac];subst hc5;exact fin true (by simp)
      |false=>
       subst hc5;cases hky:key with
       |true=>simp only [zac,zab];subst hky;exact fin true (by simp)
       |false=>simp only [zab];subst hky;exact fin _ (by rw [z];simp)
theorem Mv (hg:∀ (j:Nat) x,g[j]? =some x->BC g.length x):∀ (dd D:Nat),dd<=200->dd<D->Q8 g rt c2 c3 c4 c5 c6 u (jv D) (27200+420*dd) (200 - (dd:Int)) dd:=by
 intro dd
 induction dd with
 |zero=>
  intro D h1 h2;obtain ⟨D,rfl⟩:∃ k,D=k+1:=⟨D - 1,by omega⟩;exact AB g rt c2 c3 c4 c5 c6 u hg 0 D (.inl rfl) h1
 |succ dd ih=>
  intro D h1 h2;obtain ⟨D,rfl⟩:∃ k,D=k+1:=⟨D - 1,by omega⟩;refine AB g rt c2 c3 c4 c5 c6 u hg (dd+1) D (.inr ⟨dd,rfl,?_⟩) h1;have e:(200 - ((dd+1:Nat):Int)+1)=200 - (dd:Int):=by omega
  rw [e];exact ih D (by omega) (by omega)
end
set_option maxRecDepth 100000
noncomputable def gH:Tm:=⟨[(0,.one (.fix (TV.mI 73))),(2,.one (.fix (TV.ptr 71 0))),(4,.one (.fix (TV.mp 74))),(5,.one (.all 78 3 (.int .i64) .no))],[(66,.cells 53 [.aT sN,.aT (.int .i64),.int .i64,.int .i64,.int .i64,.bool,.bool,.fix (TV.mp 69),.fix (TV.mp 70),.int .i64,.all 79 45 sE .any] true),(68,.cells 49 [.fix (TV.ptr 66 0)] true),(69,.map 3 false false (.int .i64) (.int .i64) false),(70,.map 3 false false (.int .i64) .str false),(71,.cells 25 [.aT sN,.aT (.int .i64)] true),(73,.loop 18 Go.LoopState.ready (Option.none) (nc Tryz.prog hint 18) [(3,.one (.fix (TV.ptr 68 0)))] (aU Tryz.prog 18 4).1 (aU Tryz.prog 18 4).2.1 (aU Tryz.prog 18 4).2.2),(74,.map 3 false false (.int .i64) .bool false)],78,80,3017⟩
noncomputable def n8:Tm:=⟨[(0,.one (.fix (TV.mI 73))),(2,.one (.fix (TV.ptr 71 0))),(4,.one (.fix (TV.mp 74))),(5,.one (.all 78 3 (.int .i64) .no)),(33,.one (.aT (.int .i64))),(34,.one (.int .i64)),(35,.one (.int .i64))],[(66,.cells 53 [.aT sN,.aT (.int .i64),.int .i64,.int .i64,.int .i64,.bool,.bool,.fix (TV.mp 69),.fix (TV.mp 70),.int .i64,.all 79 45 sE .any] true),(68,.cells 49 [.fix (TV.ptr 66 0)] true),(69,.map 3 false false (.int .i64) (.int .i64) false),(70,.map 3 false false (.int .i64) .str false),(71,.cells 25 [.aT sN,.aT (.int .i64)] true),(73,.loop 18 Go.LoopState.ready (Option.none) (nc Tryz.prog hint 18) [(3,.one (.fix (TV.ptr 68 0)))] (aU Tryz.prog 18 4).1 (aU Tryz.prog 18 4).2.1 (aU Tryz.prog 18 4).2.2),(74,.map 3 false false (.int .i64) .bool false)],78,80,3017⟩
noncomputable def iB:Nat->(List Int)->(List Int)->Int->Int->qN->(List Int)->Int->Int->Int->Bool->Bool->Int->qE->(List (Int×Int))->qM->qN->(List Int)->(List (Int×Bool))->Option ((Unit×(Unit×(Unit×((List Int)×Unit))))×((qN×((List Int)×(Int×(Int×(Int×(Bool×(Bool×(Unit×(Unit×(Int×(qE×Unit)))))))))))×((Unit×Unit)×((List (Int×Int))×(qM×((qN×((List Int)×Unit))×((Unit×Unit)×((List (Int×Bool))×Unit))))))))
 |0,_,_,_,_,_,_,_,_,_,_,_,_,_,_,_,_,_,_=>none
 |n+1,t5,t33,t34,t35,c66_0,c66_1,c66_2,c66_3,c66_4,c66_5,c66_6,c66_9,c66_10,m69,m70,c71_0,c71_1,m74=>
 bif (aX t35 t34) then
  bif (au 0 t35) then
  Option.bind (t33[(Int.toNat t35)]?) fun x23=>
  bif (!(dD kI m74 x23 false)) then
  bif (room (((List.length t5)+(List.length (x23::([]:List Int))))*9)) then
  iB n (t5++(x23::([]:List Int))) t33 t34 (zap (t35+1)) c66_0 c66_1 c66_2 c66_3 c66_4 c66_5 c66_6 c66_9 c66_10 (dq kI m69 x23 (zap ((dD kI m69 x23 0)+1))) m70 c71_0 c71_1 (dq kI m74 x23 true)
  else none
  else
  iB n t5 t33 t34 (zap (t35+1)) c66_0 c66_1 c66_2 c66_3 c66_4 c66_5 c66_6 c66_9 c66_10 (dq kI m69 x23 (zap ((dD kI m69 x23 0)+1))) m70 c71_0 c71_1 m74
  else none
 else
 some (((),((),((),(t5,())))),((c66_0,(c66_1,(c66_2,(c66_3,(c66_4,(c66_5,(c66_6,((),((),(c66_9,(c66_10,()))))))))))),(((),()),(m69,(m70,((c71_0,(c71_1,())),(((),()),(m74,()))))))))
noncomputable def tu:aO:=⟨56,6,none,n8,[(.exit 2,gH)],1,fun n x=>iB n x.1.2.2.2.1 x.1.2.2.2.2.1 x.1.2.2.2.2.2.1 x.1.2.2.2.2.2.2.1 x.2.1.1 x.2.1.2.1 x.2.1.2.2.1 x.2.1.2.2.2.1 x.2.1.2.2.2.2.1 x.2.1.2.2.2.2.2.1 x.2.1.2.2.2.2.2.2.1 x.2.1.2.2.2.2.2.2.2.2.2.1 x.2.1.2.2.2.2.2.2.2.2.2.2.1 x.2.2.2.1 x.2.2.2.2.1 x.2.2.2.2.2.1.1 x.2.2.2.2.2.1.2.1 x.2.2.2.2.2.2.2.1,[]⟩
theorem ov:gH.ok Tryz.prog hint:=by
 intro p hp;simp only [gH,List.mem_cons,List.not_mem_nil,or_false] at hp;rcases hp with rfl |rfl |rfl |rfl |rfl |rfl |rfl
 ·trivial
 ·trivial
 ·trivial
 ·trivial
 ·trivial
 ·exact nR.of (by kernel_rfl) (by kernel_rfl)
 ·trivial
theorem nI:n8.ok Tryz.prog hint:=by
 intro p hp;simp only [n8,List.mem_cons,List.not_mem_nil,or_false] at hp;rcases hp with rfl |rfl |rfl |rfl |rfl |rfl |rfl
 ·trivial
 ·trivial
 ·trivial
 ·trivial
 ·trivial
 ·exact nR.of (by kernel_rfl) (by kernel_rfl)
 ·trivial
theorem GU:∀ n,aw Tryz.prog hint aI tu n:=
 aw.of (hk:=fun β=>(aq.mk [] []).hk β) (sh:=aI) (aQ.of (by kernel_rfl)) nI ⟨⟨ov,zam _,zam _⟩,trivial⟩ (fun m=>ab.aC ab.nil m)
  (fun _=>by kernel_rfl) (fun m x=>by kernel_rfl)
noncomputable def gD:Tm:=⟨[],[(66,.cells 53 [.aT sN,.aT (.int .i64),.int .i64,.int .i64,.int .i64,.bool,.bool,.fix (TV.mp 69),.fix (TV.mp 70),.int .i64,.all 76 45 sE .any] true),(68,.cells 49 [.fix (TV.ptr 66 0)] true),(69,.map 3 false false (.int .i64) (.int .i64) false),(70,.map 3 false false (.int .i64) .str false),(71,.cells 25 [.aT sN,.aT (.int .i64)] true),(73,.loop 18 Go.LoopState.ready (Option.none) (nc Tryz.prog hint 18) [(3,.one (.fix (TV.ptr 68 0)))] (aU Tryz.prog 18 4).1 (aU Tryz.prog 18 4).2.1 (aU Tryz.prog 18 4).2.2),(74,.map 3 false false (.int .i64) .bool false)],76,77,2016⟩
noncomputable def oF:Tm:=⟨[(0,.one (.fix (TV.mI 73))),(2,.one (.fix (TV.ptr 71 0))),(4,.one (.fix (TV.mp 74))),(5,.one (.all 76 3 (.int .i64) .no))],[(66,.cells 53 [.aT sN,.aT (.int .i64),.int .i64,.int .i64,.int .i64,.bool,.bool,.fix (TV.mp 69),.fix (TV.mp 70),.int .i64,.all 77 45 sE .any] true),(68,.cells 49 [.fix (TV.ptr 66 0)] true),(69,.map 3 false false (.int .i64) (.int .i64) false),(70,.map 3 false false (.int .i64) .str false),(71,.cells 25 [.aT sN,.aT (.int .i64)] true),(73,.loop 18 Go.LoopState.ready (Option.none) (nc Tryz.prog hint 18) [(3,.one (.fix (TV.ptr 68 0)))] (aU Tryz.prog 18 4).1 (aU Tryz.prog 18 4).2.1 (aU Tryz.prog 18 4).2.2),(74,.map 3 false false (.int .i64) .bool false)],76,78,2016⟩
noncomputable def j0:Nat->(List Int)->qN->(List Int)->Int->Int->Int->Bool->Bool->Int->qE->(List (Int×Int))->qM->qN->(List Int)->(List (Int×Bool))->Option (Unit×((qN×((List Int)×(Int×(Int×(Int×(Bool×(Bool×(Unit×(Unit×(Int×(qE×Unit)))))))))))×((Unit×Unit)×((List (Int×Int))×(qM×((qN×((List Int)×Unit))×((Unit×Unit)×((List (Int×Bool))×Unit))))))))
 |0,_,_,_,_,_,_,_,_,_,_,_,_,_,_,_=>none
 |n+1,t5,c66_0,c66_1,c66_2,c66_3,c66_4,c66_5,c66_6,c66_9,c66_10,m69,m70,c71_0,c71_1,m74=>
 bif (aX 0 (len t5)) then
  bif ((au 0 (zap ((len t5) - 1))) &&(aX (zap ((len t5) - 1)) (len t5))) then
  Option.bind (t5[(Int.toNat (zap ((len t5) - 1)))]?) fun x28=>
  bif ((au 0 (zap ((len t5) - 1))) &&(au (zap ((len t5) - 1)) (len t5))) then
  bif (au 0 x28) then
  Option.bind (c71_0[(Int.toNat x28)]?) fun x29=>
  Option.bind (iB (n+1) (List.take ((Int.toNat (zap ((len t5) - 1))) - 0) (List.drop 0 t5)) x29.2.2.2.1 (len x29.2.2.2.1) 0 c66_0 c66_1 c66_2 c66_3 c66_4 c66_5 c66_6 c66_9 c66_10 m69 m70 c71_0 c71_1 m74) fun y30=>
  j0 n y30.1.2.2.2.1 y30.2.1.1 y30.2.1.2.1 y30.2.1.2.2.1 y30.2.1.2.2.2.1 y30.2.1.2.2.2.2.1 y30.2.1.2.2.2.2.2.1 y30.2.1.2.2.2.2.2.2.1 y30.2.1.2.2.2.2.2.2.2.2.2.1 y30.2.1.2.2.2.2.2.2.2.2.2.2.1 y30.2.2.2.1 y30.2.2.2.2.1 y30.2.2.2.2.2.1.1 y30.2.2.2.2.2.1.2.1 y30.2.2.2.2.2.2.2.1
  else none
  else none
  else none
 else
 some ((),((c66_0,(c66_1,(c66_2,(c66_3,(c66_4,(c66_5,(c66_6,((),((),(c66_9,(c66_10,()))))))))))),(((),()),(m69,(m70,((c71_0,(c71_1,())),(((),()),(m74,()))))))))
noncomputable def s6:aO:=⟨56,2,none,oF,[(.exit 0,gD)],1,fun n x=>j0 n x.1.2.2.2.1 x.2.1.1 x.2.1.2.1 x.2.1.2.2.1 x.2.1.2.2.2.1 x.2.1.2.2.2.2.1 x.2.1.2.2.2.2.2.1 x.2.1.2.2.2.2.2.2.1 x.2.1.2.2.2.2.2.2.2.2.2.1 x.2.1.2.2.2.2.2.2.2.2.2.2.1 x.2.2.2.1 x.2.2.2.2.1 x.2.2.2.2.2.1.1 x.2.2.2.2.2.1.2.1 x.2.2.2.2.2.2.2.1,[65,72]⟩
theorem oq:gD.ok Tryz.prog hint:=by
 intro p hp;simp only [gD,List.mem_cons,List.not_mem_nil,or_false] at hp;rcases hp with rfl |rfl |rfl |rfl |rfl |rfl |rfl
 ·trivial
 ·trivial
 ·trivial
 ·trivial
 ·trivial
 ·exact nR.of (by kernel_rfl) (by kernel_rfl)
 ·trivial
theorem nK:oF.ok Tryz.prog hint:=by
 intro p hp;simp only [oF,List.mem_cons,List.not_mem_nil,or_false] at hp;rcases hp with rfl |rfl |rfl |rfl |rfl |rfl |rfl
 ·trivial
 ·trivial
 ·trivial
 ·trivial
 ·trivial
 ·exact nR.of (by kernel_rfl) (by kernel_rfl)
 ·trivial
theorem Hv:∀ n,aw Tryz.prog hint aI s6 n:=
 aw.of (hk:=fun β=>(aq.mk [] [tu]).hk β) (sh:=aI) (aQ.of (by kernel_rfl)) nK ⟨⟨oq,zam _,zam _⟩,trivial⟩ (fun m=>ab.aC (ab.nil.loop GU nI) m)
  (fun _=>by kernel_rfl) (fun m x=>by kernel_rfl)
noncomputable def um:Tm:=⟨[(6,.one (.fix (TV.ptr 66 0)))],[(65,.cells 27 [.int .i64,.int .i64,.int .i64,.bool,.bool] true),(66,.cells 53 [.aT sN,.aT (.int .i64),.int .i64,.int .i64,.int .i64,.bool,.bool,.fix TV.undef,.fix TV.undef,.int .i64,.all 67 45 sE .any] true)],67,68,1003⟩
noncomputable def BW:Tm:=⟨[(4,.one (.fix (TV.raw (Go.Value.slice (Option.none) 0 0)))),(5,.one (.int .i64))],[(65,.cells 27 [.int .i64,.int .i64,.int .i64,.bool,.bool] true),(66,.cells 53 [.aT sN,.aT (.int .i64),.int .i64,.int .i64,.int .i64,.bool,.bool,.fix TV.undef,.fix TV.undef,.int .i64,.all 67 45 sE .any] true)],67,68,1003⟩
noncomputable def OO:Tm:=⟨[(3,.one (.fix (TV.ptr 65 0))),(6,.one (.fix (TV.ptr 66 0))),(18,.one (.aT (.int .i64))),(19,.one (.int .i64)),(20,.one (.int .i64))],[(65,.cells 27 [.int .i64,.int .i64,.int .i64,.bool,.bool] true),(66,.cells 53 [.aT sN,.aT (.int .i64),.int .i64,.int .i64,.int .i64,.bool,.bool,.fix TV.undef,.fix TV.undef,.int .i64,.all 67 45 sE .any] true)],67,68,1003⟩
noncomputable def zr:Nat->(List Int)->Int->Int->Int->Int->Int->Bool->Bool->qN->(List Int)->Int->Int->Int->Bool->Bool->Int->qE->Option (((Unit×Unit)×((Int×(Int×(Int×(Bool×(Bool×Unit)))))×((qN×((List Int)×(Int×(Int×(Int×(Bool×(Bool×(Unit×(Unit×(Int×(qE×Unit)))))))))))×Unit)))⊕((Unit×(Int×Unit))×((Int×(Int×(Int×(Bool×(Bool×Unit)))))×((qN×((List Int)×(Int×(Int×(Int×(Bool×(Bool×(Unit×(Unit×(Int×(qE×Unit)))))))))))×Unit))))
 |0,_,_,_,_,_,_,_,_,_,_,_,_,_,_,_,_,_=>none
 |n+1,t18,t19,t20,c65_0,c65_1,c65_2,c65_3,c65_4,c66_0,c66_1,c66_2,c66_3,c66_4,c66_5,c66_6,c66_9,c66_10=>
 bif (aX t20 t19) then
  bif (au 0 t20) then
  Option.bind (t18[(Int.toNat t20)]?) fun x40=>
  bif c65_4 then
  Option.bind (j0 (n+1) (x40::([]:List Int)) c66_0 c66_1 c66_2 c66_3 c66_4 c66_5 c66_6 c66_9 c66_10 (dq kI [] x40 1) [] c66_0 c66_1 (dq kI [] x40 true)) fun y41=>
  bif (room (((List.length y41.2.1.2.2.2.2.2.2.2.2.2.2.1)+(List.length (((1:Int),(([]:List UInt8),(([]:List UInt8),(([]:List UInt8),((0:Int),true))))):: [])))*73)) then
  Option.bind (R4 (n+2) x40 false 0 y41.2.1.1 y41.2.1.2.1 y41.2.1.2.2.1 y41.2.1.2.2.2.1 y41.2.1.2.2.2.2.1 y41.2.1.2.2.2.2.2.1 y41.2.1.2.2.2.2.2.2.1 y41.2.1.2.2.2.2.2.2.2.2.2.1 (y41.2.1.2.2.2.2.2.2.2.2.2.2.1++((1,(([]:List UInt8),(([]:List UInt8),(([]:List UInt8),(0,true))))):: [])) y41.2.2.2.1 y41.2.2.2.2.1) fun y42=>
  bif (room (((List.length y42.2.1.2.2.2.2.2.2.2.2.2.2.1)+(List.length (((2:Int),(([]:List UInt8),(([]:List UInt8),(([]:List UInt8),((0:Int),false))))):: [])))*73)) then
  bif (y42.1.1 !=0) then
   some (.inr (((),(y42.1.1,())),((c65_0,(c65_1,(c65_2,(c65_3,(c65_4,()))))),((y42.2.1.1,(y42.2.1.2.1,(y42.2.1.2.2.1,(y42.2.1.2.2.2.1,(y42.2.1.2.2.2.2.1,(y42.2.1.2.2.2.2.2.1,(y42.2.1.2.2.2.2.2.2.1,((),((),(y42.2.1.2.2.2.2.2.2.2.2.2.1,((y42.2.1.2.2.2.2.2.2.2.2.2.2.1++((2,(([]:List UInt8),(([]:List UInt8),(([]:List UInt8),(0,false))))):: [])),()))))))))))),()))))
  else
  zr n t18 t19 (zap (t20+1)) c65_0 c65_1 c65_2 c65_3 c65_4 y42.2.1.1 y42.2.1.2.1 y42.2.1.2.2.1 y42.2.1.2.2.2.1 y42.2.1.2.2.2.2.1 y42.2.1.2.2.2.2.2.1 y42.2.1.2.2.2.2.2.2.1 y42.2.1.2.2.2.2.2.2.2.2.2.1 (y42.2.1.2.2.2.2.2.2.2.2.2.2.1++((2,(([]:List UInt8),(([]:List UInt8),(([]:List UInt8),(0,false))))):: []))
  else none
  else none
  else
  Option.bind (j0 (n+1) (x40::([]:List Int)) c66_0 c66_1 c66_2 c66_3 c66_4 c66_5 c66_6 c66_9 c66_10 (dq kI [] x40 1) [] c66_0 c66_1 (dq kI [] x40 true)) fun y43=>
  bif (room (((List.length y43.2.1.2.2.2.2.2.2.2.2.2.2.1)+(List.length (((1:Int),(([]:List UInt8),(([]:List UInt8),(([]:List UInt8),((0:Int),(aX (0:Int) t20)))))):: [])))*73)) then
  Option.bind (R4 (n+2) x40 false 0 y43.2.1.1 y43.2.1.2.1 y43.2.1.2.2.1 y43.2.1.2.2.2.1 y43.2.1.2.2.2.2.1 y43.2.1.2.2.2.2.2.1 y43.2.1.2.2.2.2.2.2.1 y43.2.1.2.2.2.2.2.2.2.2.2.1 (y43.2.1.2.2.2.2.2.2.2.2.2.2.1++((1,(([]:List UInt8),(([]:List UInt8),(([]:List UInt8),(0,(aX 0 t20)))))):: [])) y43.2.2.2.1 y43.2.2.2.2.1) fun y44=>
  bif (room (((List.length y44.2.1.2.2.2.2.2.2.2.2.2.2.1)+(List.length (((2:Int),(([]:List UInt8),(([]:List UInt8),(([]:List UInt8),((0:Int),false))))):: [])))*73)) then
  bif (y44.1.1 !=0) then
  some (.inr (((),(y44.1.1,())),((c65_0,(c65_1,(c65_2,(c65_3,(c65_4,()))))),((y44.2.1.1,(y44.2.1.2.1,(y44.2.1.2.2.1,(y44.2.1.2.2.2.1,(y44.2.1.2.2.2.2.1,(y44.2.1.2.2.2.2.2.1,(y44.2.1.2.2.2.2.2.2.1,((),((),(y44.2.1.2.2.2.2.2.2.2.2.2.1,((y44.2.1.2.2.2.2.2.2.2.2.2.2.1++((2,(([]:List UInt8),(([]:List UInt8),(([]:List UInt8),(0,false))))):: [])),()))))))))))),()))))
  else
  zr n t18 t19 (zap (t20+1)) c65_0 c65_1 c65_2 c65_3 c65_4 y44.2.1.1 y44.2.1.2.1 y44.2.1.2.2.1 y44.2.1.2.2.2.1 y44.2.1.2.2.2.2.1 y44.2.1.2.2.2.2.2.1 y44.2.1.2.2.2.2.2.2.1 y44.2.1.2.2.2.2.2.2.2.2.2.1 (y44.2.1.2.2.2.2.2.2.2.2.2.2.1++((2,(([]:List UInt8),(([]:List UInt8),(([]:List UInt8),(0,false))))):: []))
  else none
  else none
  else none
 else
 some (.inl (((),()),((c65_0,(c65_1,(c65_2,(c65_3,(c65_4,()))))),((c66_0,(c66_1,(c66_2,(c66_3,(c66_4,(c66_5,(c66_6,((),((),(c66_9,(c66_10,()))))))))))),()))))
noncomputable def Lw:aO:=⟨9,5,none,OO,[(.exit 0,um),(.ret,BW)],3,fun n x=>zr n x.1.2.2.1 x.1.2.2.2.1 x.1.2.2.2.2.1 x.2.1.1 x.2.1.2.1 x.2.1.2.2.1 x.2.1.2.2.2.1 x.2.1.2.2.2.2.1 x.2.2.1.1 x.2.2.1.2.1 x.2.2.1.2.2.1 x.2.2.1.2.2.2.1 x.2.2.1.2.2.2.2.1 x.2.2.1.2.2.2.2.2.1 x.2.2.1.2.2.2.2.2.2.1 x.2.2.1.2.2.2.2.2.2.2.2.2.1 x.2.2.1.2.2.2.2.2.2.2.2.2.2.1,[64]⟩
theorem yn:um.ok Tryz.prog hint:=Tm.cC rfl
theorem Cg:BW.ok Tryz.prog hint:=Tm.cC rfl
theorem Br:OO.ok Tryz.prog hint:=Tm.cC rfl
theorem Sj:∀ n,aw Tryz.prog hint aI Lw n:=
 aw.of (hk:=fun β=>(aq.mk [] [s6]).WA [Lb] β) (sh:=aI) (aQ.of (by kernel_rfl)) Br ⟨⟨yn,zam _,zam _⟩,⟨Cg,zam _,zam _⟩,trivial⟩ (fun m=>ab.PU (ab.nil.loop Hv nK) (kJ.nil.fn Tg (Gz _ _)) m)
  (fun _=>by kernel_rfl) (fun m x=>by kernel_rfl)
noncomputable def events (n:Nat) (g:(List (Int×(List UInt8×(List UInt8×(List Int×Bool))))×List Int)) (o:(Int×(Int×(Int×(Bool×Bool))))):Option (qE×(Int×Unit)):=
 Option.bind (right n (g.1,g.2)) fun y0=>
 bif (!y0.1) then
 some ([],1,())
 else
 Option.bind (zr (n+5) g.2 (len g.2) 0 o.1 o.2.1 o.2.2.1 o.2.2.2.1 o.2.2.2.2 g.1 g.2 o.1 o.2.1 o.2.2.1 o.2.2.2.1 o.2.2.2.2 0 []) fun y45=>
 match y45 with
 | .inl y46=>
  some (y46.2.2.1.2.2.2.2.2.2.2.2.2.2.1,0,())
 | .inr y47=>
  some ([],y47.1.2.1,())
noncomputable def Az:aZ:=⟨9,[(true,(.cons (.cy sN) (.cy (.int .i64)))),(true,(.cons (.int .i64) (.cons (.int .i64) (.cons (.int .i64) (.cons .bool .bool)))))],[(false,(.cy sE)),(false,(.int .i64))],8,fun n x=>events n x.1 x.2.1⟩
theorem MP (n:Nat):az Tryz.prog hint aI Az n:=
 az.of (hk:=fun β=>(aq.mk [FT] [Lw]).hk β) (sh:=aI) (fun m _=>ab.aC ((ab.nil.fn PG).loop Sj Br) m) (fun x=>by kernel_rfl)
end Go.Proofs.YteknbnkjelmfaaaGreatDoor
