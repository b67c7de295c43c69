/- The form of a graph with one root: its nodes in the order in which they are met. -/
import Derived.Test.YteknbnkjelmfaaaGreatDoorLaw1
set_option linter.unusedSimpArgs false
set_option linter.unusedVariables false
set_option maxRecDepth 200000
namespace Go.Proofs.YteknbnkjelmfaaaGreatDoor
open Go Go.Iv Go.Gv
def mk (o:List Int) (N:Nat):List Bool:=(List.range N).map fun j:Nat=>decide ((j:Int)∈o)
theorem DW (o:List Int) (N:Nat):(mk o N).length=N:=by simp [mk]
theorem RZ (N:Nat):mk [] N=List.replicate N false:=by
 apply List.ext_getElem
 .simp [mk]
 .intro i h1 h2
  simp [mk]
theorem As (o:List Int) (N:Nat) (k:Int) (h:0<=k/\k<(N:Int)):(mk o N)[k.toNat]? =some (decide (k∈o)):=by
 unfold mk
 grind
theorem Rn (o:List Int) (N:Nat) (k:Int) (h:0<=k/\k<(N:Int)):List.set (mk o N) k.toNat true=mk (o++ [k]) N:=by
 apply List.ext_getElem?;intro j;rw [List.getElem?_set];by_cases e:k.toNat=j
 .subst e
  rw [if_pos rfl,DW,if_pos (by omega),As _ _ _ h];simp
 .rw [if_neg e]
  unfold mk
  grind
theorem PG (l t10:List Int) (a:List Bool) (g:List aY) (rt:List Int) (hl:t10.length<=400):∀ (j n:Nat) (S:List Int),j<=t10.length->j+1<=n->S.length+j<=1000000->
  ia n l S t10 ((j:Int) - 1) a g rt=some (((),((),(l,(S++(t10.take j).reverse,())))),(a,((g,(rt,())),()))):=by
 intro j
 induction j with
 |zero=>
  intro n S _ hn _;obtain ⟨n,rfl⟩:=pS n;unfold ia;refine cF (eA (by omega)) ?_;simp
 |succ j ih=>
  intro n S hj hn hS;obtain ⟨n,rfl⟩:=pS n;have hlt:j<t10.length:=by omega
  have hx:t10[j]? =some t10[j]:=zam hlt;have e0:((j+1:Nat):Int) - 1=(j:Int):=by omega
  have w:zao ((j:Int) - 1)=(j:Int) - 1:=aj (by omega) (by omega);rw [e0];unfold ia;refine cT (af (by omega)) (cT (af (by omega)) (bS hx (cT (aV (by simp;omega)) ?_)));rw [w,ih n (S++t10[j]:: []) (by omega) (by omega) (by simp;omega),List.take_succ_eq_append_getElem hlt,List.reverse_append,List.append_assoc];rfl
theorem Nn (S:List Int) (k:Int) (hS:S.length<1000000000):aD (0:Int) (len (S++ [k]))=true/\zao (len (S++ [k]) - 1)=(S.length:Int)/\(ak (0:Int) (S.length:Int) &&aD (S.length:Int) (len (S++ [k])))=true/\(S++ [k])[(S.length:Int).toNat]? =some k/\(ak (0:Int) (S.length:Int) &&ak (S.length:Int) (len (S++ [k])))=true/\List.take ((S.length:Int).toNat - 0) (List.drop 0 (S++ [k]))=S:=by
 have h1:len (S++ [k])=(S.length:Int)+1:=by unfold len;simp
 rw [h1,Int.add_sub_cancel];refine ⟨ao (by omega),by rw [aj]<;>omega,by rw [af (by omega),ao (by omega)];rfl,?_,by rw [af (by omega),af (by omega)];rfl,?_⟩
 .show (S++ [k])[S.length]? =some k
  simp
 simp_all
theorem JD (g:List aY) (rt:List Int) (hg:∀ x∈g,x.2.2.2.1.length<=400) (hK:∀ p:Int,0<=p/\p<(g.length:Int)->∀ y∈bt g p,0<=y/\y<(g.length:Int)) {o ks o':List Int} (h:mw (bt g) o ks o'):
  ∀ (S:List Int),(∀ k∈ks,0<=k/\k<(g.length:Int))->S.length+ks.length+400*o'.length<=900000+400*o.length->o'.length<=100000->
  ∃ m,m+400*o.length<=ks.length+400*o'.length/\∀ n,1000<=n->mZ (n+m) o (S++ks.reverse) (mk o g.length) g rt=mZ n o' S (mk o' g.length) g rt:=by
 induction h with
 |nil=>
  intro S _ _ _;exact ⟨0,by simp,fun n _=>by simp⟩
 |@old o o' ks k h1 h2 ih=>
  intro S hk hb hbo;simp only [zad] at hb ⊢;obtain ⟨q,hq⟩:=h2.pre;have hol:o'.length=o.length+q.length:=by rw [hq];simp
  obtain ⟨m,m1,m2⟩:=ih S (fun y hy=>hk y (zan _ hy)) (by omega) (by omega);refine ⟨m+1,by omega,fun n hn=>?_⟩;have k0:=hk k (List.mem_cons_self ..);rw [←m2 n hn,List.reverse_cons,←List.append_assoc];obtain ⟨p1,p2,p3,p4,p5,p6⟩:=Nn (S++ks.reverse) k (by simp;omega);rw [show n+(m+1)=n+m+1 by omega];refine Eq.trans (by unfold mZ;rfl) ?_;rw [p2];refine cT p1 (cT p3 (bS p4 (cT p5 (cT (by rw [af k0.1,ao (by unfold len;rw [DW];exact k0.2)];rfl) (bS (As _ _ _ k0) (cT (decide_eq_true h1) ?_))))));rw [p6]
 |@new o o1 o' ks k h1 h2 h3 ih1 ih2=>
  intro S hk hb hbo;simp only [zad] at hb ⊢;obtain ⟨q1,hq1⟩:=h2.pre;obtain ⟨q2,hq2⟩:=h3.pre;have hol1:o1.length=o.length+1+q1.length:=by rw [hq1];simp;omega
  have hol2:o'.length=o1.length+q2.length:=by rw [hq2];simp
  have k0:=hk k (List.mem_cons_self ..);have hlt:k.toNat<g.length:=by omega
  have hx:g[k.toNat]? =some g[k.toNat]:=zam hlt;have hkl:=hg _ (List.getElem_mem hlt);generalize g[k.toNat]=x at hx hkl;have hkk:bt g k=x.2.2.2.1:=by unfold bt;rw [hx]
  rw [hkk] at ih1;obtain ⟨m1,a1,a2⟩:=ih1 (S++ks.reverse) (by rw [←hkk];exact hK k k0) (by simp;omega) (by omega);obtain ⟨m2,b1,b2⟩:=ih2 S (fun y hy=>hk y (zan _ hy)) (by omega) (by omega);have hm1:m1+400*(o.length+1)<=x.2.2.2.1.length+400*o1.length:=by simpa using a1
  refine ⟨m1+m2+1,by omega,fun n hn=>?_⟩;rw [←b2 n hn,←a2 (n+m2) (by omega),List.reverse_cons,←List.append_assoc];obtain ⟨p1,p2,p3,p4,p5,p6⟩:=Nn (S++ks.reverse) k (by simp;omega);have pk:=PG (o++k:: []) x.2.2.2.1 (mk (o++ [k]) g.length) g rt hkl x.2.2.2.1.length (n+m2+m1+2) (S++ks.reverse) (zal _) (by omega) (by simp;omega);rw [List.take_length] at pk;have wl:zao (len x.2.2.2.1 - 1)=(x.2.2.2.1.length:Int) - 1:=by unfold len;rw [aj]<;>omega
  have hin:(ak (0:Int) k &&aD k (len (mk o g.length)))=true:=by rw [af k0.1,ao (by unfold len;rw [DW];exact k0.2)];rfl
  rw [show n+(m1+m2+1)=n+m2+m1+1 by omega];refine Eq.trans (by unfold mZ;rfl) ?_;rw [p2];refine cT p1 (cT p3 (bS p4 (cT p5 (cT hin (bS (As _ _ _ k0) (cF (decide_eq_false h1) (cT hin (bS (As _ _ _ k0) (cT (aV (by simp;omega)) (cT (af k0.1) (bS hx ?_)))))))))));rw [p6,wl,Rn _ _ _ k0];exact bS pk rfl
theorem MT {o:List Int} (h:o.Nodup) {j:Nat} {x:Int} (hx:o[j]? =some x):dN o x=(j:Int):=by
 obtain ⟨hlt,rfl⟩:=List.getElem?_eq_some_iff.1 hx;unfold dN
 grind
theorem LS (N:Nat) (g:List aY) (rt:List Int) (a:List Bool) (o:List Int) (hn:o.Nodup) (hr:∀ x∈o,0<=x/\x<(N:Int)) (ho:o.length<=60):∀ (r:List Int) (i n:Nat) (T:List Int),o.drop i=r->i<=o.length->r.length+1<=n->T.length=N->(∀ x∈o.take i,T[x.toNat]? =some (dN o x))->
  ∃ T',T'.length=N/\(∀ x∈o,T'[x.toNat]? =some (dN o x))/\rj n T a (o.take i) 0 o (i:Int) g rt=some (((),((),((),(T',(a,(o,(0,()))))))),((g,(rt,())),(((),((),())),(((),((),())),())))):=by
 intro r
 induction r with
 |nil=>
  intro i n T hd hi hf hT hp;obtain ⟨n,rfl⟩:=pS n;have hlen:o.length<=i:=ox hd;have ht:o.take i=o:=List.take_of_length_le hlen;rw [ht] at hp ⊢;refine ⟨T,hT,hp,?_⟩;unfold rj;exact cF (aC (by unfold len;omega)) rfl
 |cons x r ih=>
  intro i n T hd hi hf hT hp;obtain ⟨n,rfl⟩:=pS n;have hlen:o.length=i+(r.length+1):=tC hd;have hx:o[i]? =some x:=sv hd;have hd2:o.drop (i+1)=r:=sy hd;have w:=wS i;have x0:=hr x (List.mem_of_getElem? hx);have htk:o.take (i+1)=o.take i++ [x]:=by
   obtain ⟨hlt,rfl⟩:=List.getElem?_eq_some_iff.1 hx;exact List.take_succ_eq_append_getElem hlt
  have hli:len (o.take i)=(i:Int):=by unfold len;rw [List.length_take];omega
  have hpx:=MT hn hx;obtain ⟨T',t1,t2,t3⟩:=ih (i+1) n (List.set T x.toNat (i:Int)) hd2 (by omega) (by simp at hf;omega) (by simp [hT]) (fun y hy=>by
   rw [List.getElem?_set];by_cases e:x.toNat=y.toNat
   .rw [if_pos e,if_pos (by omega)]
    have y0:=hr y (List.mem_of_mem_take hy);rw [show y=x by omega,hpx]
   .rw [if_neg e]
    rw [htk] at hy;rcases List.mem_append.1 hy with hy |hy
    .exact hp y hy
    .exact absurd (by rw [List.mem_singleton.1 hy]) e)
  refine ⟨T',t1,t2,?_⟩;have b1:aD (i:Int) (len o)=true:=ao (by unfold len;omega);have b2:(ak (0:Int) (i:Int) &&aD (i:Int) (len o))=true:=by rw [b1,af (by omega)];rfl
  have b3:(ak (0:Int) x &&aD x (len T))=true:=by rw [af x0.1,ao (by unfold len;omega)];rfl
  have hg:T[x.toNat]? =some T[x.toNat]:=zam (by omega);unfold rj;refine cT b1 (cT b2 (bS hx (cT b3 (bS hg (cT b2 (bS hx (cT (aV (by simp;omega)) ?_)))))))
  grind
def vH (g:List aY) (f:List Int) (x:Int):aY:=match g[x.toNat]? with
 |some p=>(p.1,(p.2.1,(p.2.2.1,(p.2.2.2.1.map (dN f),p.2.2.2.2))))
 |none=>(0,([],([],([],false))))
theorem Mw (N:Nat) (T o:List Int) (hT:T.length=N) (hp:∀ x∈o,T[x.toNat]? =some (dN o x)) (hr:∀ x∈o,0<=x/\x<(N:Int)) (t10:Int) (g:List aY) (rt:List Int) (c66:List aY) (a0:Int) (a1 a2:List UInt8) (ks:List Int) (a4:Bool) (hk:∀ y∈ks,y∈o) (hkl:ks.length<=400):∀ (r:List Int) (i n:Nat) (acc:List Int),ks.drop i=r->i<=ks.length->r.length+1<=n->acc.length<=i->
  gZ n T o t10 acc (i:Int) g rt c66 a0 a1 a2 ks a4=some (((),((),((),(T,(o,(t10,((),(acc++r.map (dN o),())))))))),((g,(rt,())),(((),((),())),((c66,((),())),((a0,(a1,(a2,(ks,(a4,()))))),()))))):=by
 intro r
 induction r with
 |nil=>
  intro i n acc hd hi hf _;obtain ⟨n,rfl⟩:=pS n;have hlen:ks.length<=i:=ox hd;unfold gZ;refine cF (aC (by unfold len;omega)) ?_;simp
 |cons x r ih=>
  intro i n acc hd hi hf ha;obtain ⟨n,rfl⟩:=pS n;have hlen:ks.length=i+(r.length+1):=tC hd;have hx:ks[i]? =some x:=sv hd;have hd2:ks.drop (i+1)=r:=sy hd;have w:=wS i;have hxo:=hk x (List.mem_of_getElem? hx);have x0:=hr x hxo;unfold gZ;refine cT (ao (by unfold len;omega)) (cT (af (by omega)) (bS hx (cT (by rw [af x0.1,ao (by unfold len;omega)];rfl) (bS (hp x hxo) (cT (aV (by simp;omega)) ?_)))));rw [w,ih (i+1) n (acc++dN o x:: []) hd2 (by omega) (by simp at hf;omega) (by simp;omega)];simp
theorem HF (T o:List Int) (g:List aY) (rt:List Int) (hT:T.length=g.length) (hp:∀ x∈o,T[x.toNat]? =some (dN o x)) (hr:∀ x∈o,0<=x/\x<(g.length:Int)) (hg:∀ x∈g,x.2.2.2.1.length<=400) (hK:∀ p∈o,∀ y∈bt g p,y∈o) (ho:o.length<=60):∀ (r:List Int) (i n:Nat) (acc:List aY),o.drop i=r->i<=o.length->r.length+1000<=n->acc.length<=i->
  qD n T o (i:Int) g rt acc=some (((),((),((),(T,())))),((g,(rt,())),(((),((),())),((acc++r.map (vH g o),((),())),())))):=by
 intro r
 induction r with
 |nil=>
  intro i n acc hd hi hf _;obtain ⟨n,rfl⟩:=pS n;have hlen:o.length<=i:=ox hd;unfold qD;refine cF (aC (by unfold len;omega)) ?_;simp
 |cons x r ih=>
  intro i n acc hd hi hf ha;obtain ⟨n,rfl⟩:=pS n;have hlen:o.length=i+(r.length+1):=tC hd;have hx:o[i]? =some x:=sv hd;have hd2:o.drop (i+1)=r:=sy hd;have w:=wS i;have hxo:=List.mem_of_getElem? hx;have x0:=hr x hxo;have hlt:x.toNat<g.length:=by omega
  have hy:g[x.toNat]? =some g[x.toNat]:=zam hlt;have hkl:=hg _ (List.getElem_mem hlt);generalize g[x.toNat]=p at hy hkl;have hkk:bt g x=p.2.2.2.1:=by unfold bt;rw [hy]
  have kf:=Mw g.length T o hT hp hr (i:Int) g rt acc p.1 p.2.1 p.2.2.1 p.2.2.2.1 p.2.2.2.2 (by rw [←hkk];exact hK x hxo) hkl p.2.2.2.1 0 (n+2) [] rfl (by omega) (by omega) (by simp);have hnp:vH g o x=(p.1,(p.2.1,(p.2.2.1,(p.2.2.2.1.map (dN o),p.2.2.2.2)))):=by unfold vH;rw [hy]
  have b1:aD (i:Int) (len o)=true:=ao (by unfold len;omega);unfold qD;refine cT b1 (cT (by rw [b1,af (by omega)];rfl) (bS hx (cT (af x0.1) (bS hy (bS kf (cT (aV (by simp;omega)) ?_))))));simp only [w,List.nil_append];rw [ih (i+1) n _ hd2 (by omega) (by simp at hf;omega) (by simp;omega),List.map_cons,hnp];simp
theorem uZ (g:List aY) (c:Int) (o:List Int) (hv:mw (bt g) [] [c] o) (hR:∀ n,20000<=n->fh n (g,[c])=some (true,())) (hgl:g.length<=60) (hc:0<=c/\c<(g.length:Int)) (hg:∀ x∈g,x.2.2.2.1.length<=400) (hK:∀ p:Int,0<=p/\p<(g.length:Int)->∀ y∈bt g p,0<=y/\y<(g.length:Int)) (ho:o.length<=60) (n:Nat) (hn:100000<=n):
  qc n (g,[c])=some ((),((o.map (vH g o),([0],())),())):=by
 have hnd:o.Nodup:=hv.nodup List.nodup_nil;have hr:∀ x∈o,0<=x/\x<(g.length:Int):=hv.UL hK (fun p hp=>by cases hp) (fun k hk=>by rw [List.mem_singleton.1 hk];exact hc);have hcl:∀ p∈o,∀ y∈bt g p,y∈o:=fun p hp=>(hv.closed p hp).resolve_left (by simp)
 obtain ⟨h0,hco⟩:dN o c=0/\c∈o:=by
  have hc:c∈o:=hv.met c (List.mem_singleton.2 rfl);refine ⟨?_,hc⟩;cases hv with
  |old h1 _=>cases h1
  |new h1 h2 h3=>
   cases h3;obtain ⟨r,rfl⟩:=h2.pre;exact mu (o:= []) (r:=r) (by simp)
 obtain ⟨m,m1,m2⟩:=JD g [c] hg hK hv [] (fun k hk=>by rw [List.mem_singleton.1 hk];exact hc) (by simp;omega) (by omega);have q1:mZ (n+5) [] (c:: []) (mk [] g.length) g [c]=some ((o,()),(mk o g.length,((g,([c],())),()))):=by
  obtain ⟨k,hk⟩:∃ k,n+5=(k+1)+m:=⟨n+5 - m - 1,by simp at m1;omega⟩;have:=m2 (k+1) (by simp at m1;omega);rw [hk];refine Eq.trans this ?_;unfold mZ;exact cF rfl rfl
 obtain ⟨T,t1,t2,t3⟩:=LS g.length g [c] (mk o g.length) o hnd hr ho o 0 (n+7) (List.replicate g.length 0) rfl (by omega) (by omega) (by simp) (by simp);have q3:=HF T o g [c] t1 t2 hr hg hcl ho o 0 (n+6) [] rfl (by omega) (by omega) (by simp);have q4:nF (n+7) T 0 g [c] ([]++o.map (vH g o)) []=some (((),((),())),((g,([c],())),(((),((),())),(([]++o.map (vH g o),([0],())),())))):=by
  have t2c:=t2 c hco;rw [h0] at t2c;unfold nF;refine cT rfl (cT rfl (bS (v:=c) rfl (cT (by rw [af hc.1,ao (by unfold len;omega)];rfl) (bS t2c (cT (aV (by simp)) ?_)))))
  show nF (n+6) T 1 g [c] ([]++o.map (vH g o)) [0]=_
  unfold nF;exact cF rfl rfl
 have q5:Ha (n+4) T (mk o g.length) o (zao (0+1)) g [c]=some (((),((),((),(T,(o,()))))),((g,([c],())),(((),((),())),(((),((),())),())))):=by
  unfold Ha;exact cF rfl rfl
 have hlen:len g=(g.length:Int):=rfl;unfold qc;refine bS (hR n (by omega)) (cF rfl (cT (by simp only [hlen];rw [af (by omega),af (by omega)];rfl) (cT (by simp only [hlen];rw [af (by omega),af (by omega)];rfl) (cT rfl (bS (v:=c) rfl ?_)))));have e1:List.replicate (Int.toNat (len g)) false=mk [] g.length:=(RZ g.length).symm;simp only [e1];exact bS q1 (bS t3 (bS q5 (bS q3 (bS q4 rfl))))
theorem O0 (l:List cZ) (hl:l.length<1000000000) (t1:Int) {F key m odd:Bool} {d k:Nat} {w:List cZ} (h:sT F key m odd d k w):∀ (st:List Int) (x:Int) (post:List cZ) (i n:Nat),st.length+d<=100000->l.drop i=w++post->i+w.length<=l.length->
  dz (n+w.length) l t1 (st++ [x]) (i:Int)=dz n l t1 (st++ [x]) ((i+w.length:Nat):Int):=by
 induction h with
 |nil=>intro st x post i n _ _ _;simp
 |@leaf key m odd d k e r h1 _ ih=>
  intro st x post i n hd hr hi;simp only [zad] at hi ⊢;have e0:(Int.toNat (i:Int))=i:=rfl;have hx:l[i]? =some e:=sv hr;have w1:=wS i;have hd1:l.drop (i+1)=r++post:=sy hr;have IH:=ih st x post (i+1) n hd hd1 (by omega);have z:(((st.length:Int)+1)==0)=false:=by rw [beq_eq_false_iff_ne];omega
  have step:dz (n+r.length+1) l t1 (st++ [x]) (i:Int)=dz (n+r.length) l t1 (st++ [x]) ((i+1:Nat):Int):=by
   conv=>lhs;rw [dz];simp only [Ra,Re,f37]
   simp only [ao (show (i:Int)<len l by unfold len;omega),af (show (0:Int)<=i by omega),zac,zab,e0,hx,zaa,gj,w1,z];rcases jS h1 with h |h
   .have q:(e.1==7)=true:=by rw [h];rfl
    simp only [q,zac]
   .have q:(e.1==7)=false:=by rw [h];rfl
    have q2:(e.1==8)=true:=by rw [h];rfl
    simp only [q,q2,zac,zab]
  rw [show n+(r.length+1)=n+r.length+1 by omega,step,IH];rw [show i+1+r.length=i+(r.length+1) by omega]
 |@jy key m odd d k m2 k2 e w r h1 h2 h3 _ ih1 ih2=>
  intro st x post i n hd hr hi;simp only [zad,zaf] at hi ⊢;obtain ⟨t,a,rfl,_,_⟩:=h1;have e0:(Int.toNat (i:Int))=i:=rfl;have hx:l[i]? =some (jB m2,([],(t,(a,(0,(F ||(key ||(m && !odd))) ||decide (k2=0)))))):=by have:=dh hr 0;simpa using this
  have w1:=wS i;have hd1:l.drop (i+1)=w++(eE m2::(r++post)):=by rw [←zak,hr];simp
  have hd2:l.drop (i+1+w.length)=eE m2::(r++post):=by rw [←zak,hd1];simp
  have hd3:l.drop (i+1+w.length+1)=r++post:=by rw [←zak,hd2];rfl
  have hx2:l[i+1+w.length]? =some (eE m2):=by have:=dh hd2 0;simpa using this
  have IH1:=ih1 (st++ [x]) (jB m2+1) (eE m2::(r++post)) (i+1) (n+r.length+1) (by simp;omega) hd1 (by omega);have IH2:=ih2 st x post (i+1+w.length+1) n hd hd3 (by omega);have wk:zao (jB m2+1)=jB m2+1:=by cases m2<;>rfl
  have rm:room (((st++ [x]).length+List.length ((jB m2+1)::([]:List Int)))*9)=true:=aV (by simp;omega);have z:((((st++ [x]).length:Int)+1)==0)=false:=by rw [beq_eq_false_iff_ne];omega
  have step1:dz (n+r.length+1+w.length+1) l t1 (st++ [x]) (i:Int)=dz (n+r.length+1+w.length) l t1 ((st++ [x])++ [jB m2+1]) ((i+1:Nat):Int):=by
   conv=>lhs;rw [dz];simp only [Ra,Re,f37]
   simp only [ao (show (i:Int)<len l by unfold len;omega),af (show (0:Int)<=i by omega),zac,zab,e0,hx,zaa,wk,rm,gj (st++ [x]),w1,z];cases m2<;>rfl
  have e2:(Int.toNat ((i+1+w.length:Nat):Int))=i+1+w.length:=rfl;have w4:zao (((i+1+w.length:Nat):Int)+1)=((i+1+w.length+1:Nat):Int):=by rw [aj]<;>omega
  have hcl:((st++ [x]).length:Int)=(st.length:Int)+1:=by simp
  have w5:zao (((st++ [x]).length:Int)+1 - 1)=((st++ [x]).length:Int):=by rw [Int.add_sub_cancel];exact aj (by omega) (by omega)
  have e3:(Int.toNat ((st++ [x]).length:Int))=(st++ [x]).length:=rfl;have b4:ak (0:Int) ((st++ [x]).length:Int)=true:=af (by omega);have b5:aD ((st++ [x]).length:Int) (((st++ [x]).length:Int)+1)=true:=ao (by omega);have b6:ak ((st++ [x]).length:Int) (((st++ [x]).length:Int)+1)=true:=af (by omega);have z2:(((((st++ [x]).length - 0:Nat)):Int)==0)=false:=by rw [beq_eq_false_iff_ne];simp;omega
  have ne:(jB m2+1 !=(eE m2).1)=false:=by cases m2<;>rfl
  have step2:dz (n+r.length+1) l t1 ((st++ [x])++ [jB m2+1]) ((i+1+w.length:Nat):Int)=dz (n+r.length) l t1 (st++ [x]) ((i+1+w.length+1:Nat):Int):=by
   conv=>lhs;rw [dz];simp only [Ra,Re,f37]
   simp only [ao (show ((i+1+w.length:Nat):Int)<len l by unfold len;omega),af (show (0:Int)<=((i+1+w.length:Nat):Int) by omega),zac,zab,e2,hx2,zaa,gj (st++ [x]),w4,w5,e3,b4,b5,b6,zai,jV,ne,z,z2,mN];cases m2<;>rfl
  rw [show n+(w.length+(r.length+1)+1)=n+r.length+1+w.length+1 by omega,step1,IH1,step2,IH2];rw [show i+1+w.length+1+r.length=i+(w.length+(r.length+1)+1) by omega]
theorem Ow (l:List cZ) (hl:l.length<900000000) {F key m odd:Bool} {d k:Nat} {w:List cZ} (h:sT F key m odd d k w) (hk:k=1) (hd:d<=10000) (post:List cZ) (i n:Nat) (hr:l.drop i=w++post) (hi:i+w.length<=l.length) (hn:2*w.length+10<=n):Pe n l (i:Int)=some (((i+w.length:Nat):Int),()):=by
 have hP:=uS h hk (by omega) hd;have hw:1<=w.length:=by have:=h.le;omega
 have c0:(bif aD (i:Int) 0 then some true else some (ak (len l) (i:Int)):Option Bool)=some false:=by
  rw [aC (show (0:Int)<=(i:Int) by omega),zab,eA (show (i:Int)<len l by unfold len;omega)]
 have e0:(Int.toNat (i:Int))=i:=rfl;have tk:∀ j:Nat,j=i+w.length->List.take (j - i) (List.drop i l)=w:=fun j hj=>by
  subst hj;rw [hr,show i+w.length - i=w.length by omega];simp
 unfold Pe;rw [c0];simp only [zaa,zab];cases h with
 |nil=>cases hk
 |@leaf _ _ _ _ k e r h1 h3=>
  have hk0:k=0:=by omega
  subst hk0;cases h3;obtain ⟨n,rfl⟩:=pS n;have hx:l[i]? =some e:=sv hr;have w1:zao ((i:Int)+1)=((i+1:Nat):Int):=by rw [aj]<;>simp at hi<;>omega
  have e1:(Int.toNat ((i+1:Nat):Int))=i+1:=rfl;have z:(len ([]:List Int)==0)=true:=rfl;simp only [zad,zah] at hi hn ⊢;have b1:(ak (0:Int) ((i+1:Nat):Int) &&ak ((i+1:Nat):Int) (len l))=true:=by
   rw [af (by omega),af (by unfold len;omega)];rfl
  have b2:(ak (0:Int) (i:Int) &&ak (i:Int) ((i+1:Nat):Int))=true:=by
   rw [af (by omega),af (by omega)];rfl
  have p:=hP (n+1) (by simp;omega);have t:=tk (i+1) (by simp);have:dz (n+1) l (i:Int) [] (i:Int)=some (.inr ((((i+1:Nat):Int),()),())):=by
   rw [dz];simp only [Ra,Re,f37];simp only [ao (show (i:Int)<len l by unfold len;omega),af (show (0:Int)<=i by omega),zac,zab,e0,e1,hx,zaa,w1,z,b1,b2,t,p,zag,Bool.true_and,af (show (i:Int)<=((i+1:Nat):Int) by omega)];rcases jS h1 with h |h
   .have q:(e.1==7)=true:=by rw [h];rfl
    simp only [q,zac]
   .have q:(e.1==7)=false:=by rw [h];rfl
    have q2:(e.1==8)=true:=by rw [h];rfl
    simp only [q,q2,zac,zab]
  rw [this];rfl
 |@jy _ _ _ d k m2 k2 e w r h1 h2 h3 h4=>
  have hk0:k=0:=by omega
  subst hk0;cases h4;obtain ⟨t,a,rfl,_,_⟩:=h1;simp only [zad,zaf,zah] at hi hn ⊢;have hx:l[i]? =some (jB m2,([],(t,(a,(0,(F ||(key ||(m && !odd))) ||decide (k2=0)))))):=by have:=dh hr 0;simpa using this
  have hd1:l.drop (i+1)=w++(eE m2::post):=by rw [←zak,hr];simp
  have hd2:l.drop (i+1+w.length)=eE m2::post:=by rw [←zak,hd1];simp
  have hx2:l[i+1+w.length]? =some (eE m2):=by have:=dh hd2 0;simpa using this
  obtain ⟨n,rfl⟩:∃ x,n=x+1+w.length+1:=⟨n - 2 - w.length,by omega⟩;have P:=O0 l (by omega) (i:Int) h3 [] (jB m2+1) (eE m2::post) (i+1) (n+1) (by simp;omega) hd1 (by omega);simp only [List.nil_append] at P;have w1:=wS i;have wk:zao (jB m2+1)=jB m2+1:=by cases m2<;>rfl
  have rm:room ((List.length ([]:List Int)+List.length ((jB m2+1)::([]:List Int)))*9)=true:=aV (by simp);have z:∀ y:Int,(len (([]:List Int)++ [y])==0)=false:=fun y=>rfl
  have step1:dz (n+1+w.length+1) l (i:Int) [] (i:Int)=dz (n+1+w.length) l (i:Int) [jB m2+1] ((i+1:Nat):Int):=by
   conv=>lhs;rw [dz];simp only [Ra,Re,f37]
   simp only [ao (show (i:Int)<len l by unfold len;omega),af (show (0:Int)<=i by omega),zac,zab,e0,hx,zaa,wk,rm,w1,z];cases m2<;>rfl
  have e2:(Int.toNat ((i+1+w.length:Nat):Int))=i+1+w.length:=rfl;have e3:(Int.toNat ((i+1+w.length+1:Nat):Int))=i+1+w.length+1:=rfl;have w4:zao (((i+1+w.length:Nat):Int)+1)=((i+1+w.length+1:Nat):Int):=by rw [aj]<;>omega
  have y5:∀ y:Int,zao (len [y] - 1)=0:=fun y=>rfl
  have y7:∀ y:Int,(ak (0:Int) 0 &&aD (0:Int) (len [y]))=true:=fun y=>rfl
  have y8:∀ y:Int,(ak (0:Int) 0 &&ak (0:Int) (len [y]))=true:=fun y=>rfl
  have y9:∀ y:Int,(len [y]==0)=false:=fun y=>rfl
  have z2:∀ y:Int,([y]:List Int)[0]? =some y:=fun y=>rfl
  have x4:(Int.toNat 0)=0:=rfl;have x5:((((0 - 0:Nat)):Int)==0)=true:=rfl;have ne:(jB m2+1 !=(eE m2).1)=false:=by cases m2<;>rfl
  have b1:(ak (0:Int) ((i+1+w.length+1:Nat):Int) &&ak ((i+1+w.length+1:Nat):Int) (len l))=true:=by
   rw [af (by omega),af (by unfold len;omega)];rfl
  have b2:(ak (0:Int) (i:Int) &&ak (i:Int) ((i+1+w.length+1:Nat):Int))=true:=by
   rw [af (by omega),af (by omega)];rfl
  have p:=hP (n+1) (by simp;omega);have t:=tk (i+1+w.length+1) (by simp;omega);have step2:dz (n+1) l (i:Int) [jB m2+1] ((i+1+w.length:Nat):Int)=some (.inr ((((i+1+w.length+1:Nat):Int),()),())):=by
   rw [dz];simp only [Ra,Re,f37];simp only [ao (show ((i+1+w.length:Nat):Int)<len l by unfold len;omega),af (show (0:Int)<=((i+1+w.length:Nat):Int) by omega),zac,zab,e0,e2,e3,hx2,zaa,w4,y5,y7,y8,y9,z2,x4,x5,ne,b1,b2,t,p,zag];cases m2<;>rfl
  rw [step1,P,step2];rw [show i+1+w.length+1=i+(w.length+(0+1)+1) by omega];rfl
inductive DZ (F:Bool):Bool->List cZ->Prop
 |nil {b}:DZ F b []
 |cons {b fl w r}:(b=true\/fl=true)->sT F false false false 200 1 w->DZ F false r->DZ F b (iQ fl::(w++dG::r))
theorem QL {F b:Bool} {l:List cZ} (h:DZ F b l):∀ e∈l,∀ n,Ep n e=some (true,()):=by
 induction h with
 |nil=>intro e h;cases h
 |@cons b fl w r _ h2 _ ih=>
  intro e h n;rcases List.mem_cons.1 h with rfl |h
  .exact PC n _
  .rcases List.mem_append.1 h with h |h
   .exact Rm h2 e h n
   .rcases List.mem_cons.1 h with rfl |h
    .exact NI n
    .exact ih e h n
theorem O9 (l:List cZ) (hl:l.length<1000000000) (he:∀ e∈l,∀ n,Ep n e=some (true,())):∀ (r:List cZ) (i n:Nat),l.drop i=r->r.length+1<=n->i<=l.length->xa n l (i:Int)=some (.inl ((l,()),())):=by
 intro r
 induction r with
 |nil=>
  intro i n hr hn hi;obtain ⟨n,rfl⟩:∃ k,n=k+1:=⟨n - 1,by simp at hn;omega⟩;have hlen:l.length<=i:=ox hr;simp only [xa,aC (show len l<=(i:Int) by unfold len;omega),zab]
 |cons x r ih=>
  intro i n hr hn hi;obtain ⟨n,rfl⟩:∃ k,n=k+1:=⟨n - 1,by simp at hn;omega⟩;simp only [zad] at hn;have hlen:l.length=i+r.length+1:=tC hr;have e0:(Int.toNat (i:Int))=i:=rfl;have hx:l[i]? =some x:=sv hr;have w:=wS i;have hd:l.drop (i+1)=r:=sy hr;have h1:Ep (n+1) (x.1,(x.2.1,(x.2.2.1,(x.2.2.2.1,(x.2.2.2.2.1,x.2.2.2.2.2)))))=some (true,()):=he x (List.mem_of_getElem? hx) (n+1);simp only [xa,ao (show (i:Int)<len l by unfold len;omega),af (show (0:Int)<=i by omega),zac,zab,e0,hx,zaa,h1,zag,w];exact ih (i+1) n hd (by omega) (by omega)
theorem IP (l:List cZ) (hl:l.length<900000000) {F b:Bool} {r:List cZ} (h:DZ F b r):∀ (i n:Nat),l.drop i=r->i<=l.length->r.length+3*l.length+20<=n->yi n l (i:Int)=some (.inl ((),())):=by
 induction h with
 |nil=>
  intro i n hr hi hn;obtain ⟨n,rfl⟩:=pS n;have hlen:l.length<=i:=ox hr;simp only [yi,aC (show len l<=(i:Int) by unfold len;omega),zab]
 |@cons b fl w r _ h2 _ ih=>
  intro i n hr hi hn;obtain ⟨n,rfl⟩:=pS n;have hlen:l.length=i+(w.length+(r.length+1)+1):=by
   have:=congrArg List.length hr;simp at this;omega
  simp only [zad,zaf] at hn;have hw:1<=w.length:=h2.le;have e0:(Int.toNat (i:Int))=i:=rfl;have hx:l[i]? =some (iQ fl):=by have:=dh hr 0;simpa using this
  have w1:=wS i;have hd1:l.drop (i+1)=w++(dG::r):=sy hr;have hd2:l.drop (i+1+w.length)=dG::r:=by rw [←zak,hd1];simp
  have hd3:l.drop (i+1+w.length+1)=r:=by rw [←zak,hd2];rfl
  have hx2:l[i+1+w.length]? =some dG:=by have:=dh hd2 0;simpa using this
  have hE:=Ow l hl h2 rfl (by omega) (dG::r) (i+1) (n+1) hd1 (by omega) (by omega);have hP:=uS h2 rfl (by omega) (by omega) (n+2) (by omega);have e1:(Int.toNat ((i+1:Nat):Int))=i+1:=rfl;have e2:(Int.toNat ((i+1+w.length:Nat):Int))=i+1+w.length:=rfl;have w2:zao (((i+1+w.length:Nat):Int)+1)=((i+1+w.length+1:Nat):Int):=by rw [aj]<;>omega
  have q1:((iQ fl).1 !=1)=false:=rfl;have q2:(dG.1 !=2)=false:=rfl;have q3:((((i+1+w.length:Nat):Int))==((i+1:Nat):Int))=false:=by rw [beq_eq_false_iff_ne];omega
  have b0:ak (len l) ((i+1+w.length:Nat):Int)=false:=eA (by unfold len;omega);have b1:(ak (0:Int) ((i+1+w.length:Nat):Int) &&ak ((i+1+w.length:Nat):Int) (len l))=true:=by
   rw [af (by omega),af (by unfold len;omega)];rfl
  have b2:(ak (0:Int) ((i+1:Nat):Int) &&ak ((i+1:Nat):Int) ((i+1+w.length:Nat):Int))=true:=by
   rw [af (by omega),af (by omega)];rfl
  have tk:List.take (i+1+w.length - (i+1)) (List.drop (i+1) l)=w:=by
   rw [hd1,show i+1+w.length - (i+1)=w.length by omega];simp
  simp only [yi,ao (show (i:Int)<len l by unfold len;omega),af (show (0:Int)<=i by omega),af (show (0:Int)<=((i+1+w.length:Nat):Int) by omega),zac,zab,e0,hx,zaa,q1,w1,hE,q3,b0,e2,hx2,q2,b1,b2,e1,tk,hP,zag,w2,Bool.true_and,af (show ((i+1+w.length:Nat):Int)<=len l by unfold len;omega)];exact ih (i+1+w.length+1) n hd3 (by omega) (by omega)
theorem oB (l:List cZ) (hl:l.length<900000000) {F b:Bool} (h:DZ F b l) (n:Nat) (hn:4*l.length+30<=n):mF n l=some (true,()):=by
 have h1:=O9 l (by omega) (QL h) l 0 (n+2) rfl (by omega) (by omega);have h2:=IP l hl h 0 n rfl (by omega) (by omega);unfold mF;refine (congrArg (fun z=>Option.bind z _) h1).trans ?_;simp only [zaa];refine (congrArg (fun z=>Option.bind z _) h2).trans ?_;rfl
def mI (f:List Int):Nat->List Int->List i6
 |_,[]=> []
 |k,x::r=>(oy (k+1),dN f x)::mI f (k+1) r
theorem P1 (f:List Int):∀ (a b:List Int) (k:Nat),mI f k (a++b)=mI f k a++mI f (k+a.length) b:=by
 intro a
 induction a with
 |nil=>intro b k;simp [mI]
 |cons x a ih=>
  intro b k;simp only [List.cons_append,mI,ih,zad];rw [show k+1+a.length=k+(a.length+1) by omega]
theorem Oo (f:List Int):∀ (a:List Int) (k:Nat),(mI f k a).length=a.length:=by
 intro a
 induction a with
 |nil=>intro k;rfl
 |cons x a ih=>intro k;simp [mI,ih]
def kU (nm:List UInt8) (acc:Int) (l:List i6):Int:=l.foldl (fun a p=>if p.1=nm then p.2 else a) acc
theorem FD (f:List Int) (m:Nat) (acc:Int):∀ (a:List Int) (k:Nat),m<k+1->kU (oy m) acc (mI f k a)=acc:=by
 intro a
 induction a with
 |nil=>intro k _;rfl
 |cons x a ih=>
  intro k hk;have h1:¬ oy (k+1)=oy m:=fun h=>by have:=FW h;omega
  have:=ih (k+1) (by omega);unfold kU at this ⊢;simp only [mI,List.foldl_cons,if_neg h1];exact this
theorem IB (f:List Int) (x:Int):∀ (a:List Int) (k:Nat) (acc:Int),x∈a->kU (oy (k+a.idxOf x+1)) acc (mI f k a)=dN f x:=by
 intro a
 induction a with
 |nil=>intro k acc h;cases h
 |cons y a ih=>
  intro k acc h;by_cases e:y=x
  .subst e
   have hi:(y::a).idxOf y=0:=by simp
   rw [hi];have:=FD f (k+1) (dN f y) a (k+1) (by omega);unfold kU at this ⊢;simp only [mI,List.foldl_cons,Nat.add_zero,if_true];exact this
  .have hx:x∈a:=by
    rcases List.mem_cons.1 h with h |h
    .exact absurd h.symm e
    .exact h
   have hi:(y::a).idxOf x=a.idxOf x+1:=by
    rw [List.idxOf_cons];have:(y==x)=false:=by simpa using e
    rw [this];rfl
   rw [hi];have h1:¬ oy (k+1)=oy (k+(a.idxOf x+1)+1):=fun h=>by have:=FW h;omega
   have:=ih (k+1) acc hx;rw [show k+1+a.idxOf x+1=k+(a.idxOf x+1)+1 by omega] at this;unfold kU at this ⊢;simp only [mI,List.foldl_cons,if_neg h1];exact this
theorem Il (t0:List cZ) (t1 t2:Int) (t9:List Int) (t11:Int) (ns:List aY) (rs:List Int) (k0:Int) (a b nm:List UInt8) (st:Int) (fl:Bool) (l:List i6) (hl:l.length<1000000000):
  ∀ (r:List i6) (i n:Nat) (acc:Int),l.drop i=r->i<=l.length->r.length+1<=n->
  fM n t0 t1 t2 t9 l t11 acc (i:Int) ns rs k0 a b nm st fl=some ((t0,(t1,(t2,((),((),(t9,(l,(t11,((),(kU nm acc r,())))))))))),(((),((),())),((ns,(rs,())),((k0,(a,(b,(nm,(st,(fl,())))))),())))):=by
 intro r
 induction r with
 |nil=>
  intro i n acc hr hi hn;obtain ⟨n,rfl⟩:∃ k,n=k+1:=⟨n - 1,by simp at hn;omega⟩;have hlen:l.length<=i:=ox hr;simp only [fM,aC (show len l<=(i:Int) by unfold len;omega),zab];rfl
 |cons x r ih=>
  intro i n acc hr hi hn;obtain ⟨n,rfl⟩:∃ k,n=k+1:=⟨n - 1,by simp at hn;omega⟩;simp only [zad] at hn;have hlen:l.length=i+r.length+1:=tC hr;have e0:(Int.toNat (i:Int))=i:=rfl;have hx:l[i]? =some x:=sv hr;have w:=wS i;have hd:l.drop (i+1)=r:=sy hr;have h1:aD (i:Int) (len l)=true:=ao (show (i:Int)<len l by unfold len;omega);have h2:(ak (0:Int) (i:Int) &&aD (i:Int) (len l))=true:=by rw [h1,af (show (0:Int)<=i by omega)];rfl
  unfold fM;refine cT h1 (cT h2 (bS (v:=x) hx ?_));by_cases e:x.1=nm
  .refine cT (by simpa using e) (cT h2 (bS (v:=x) hx ?_))
   rw [w,ih (i+1) n _ hd (by omega) (by omega)];simp only [kU,List.foldl_cons,if_pos e]
  .refine cF (by simpa using e) ?_
   rw [w,ih (i+1) n _ hd (by omega) (by omega)];simp only [kU,List.foldl_cons,if_neg e]
def rb (t9:List Int) (ns:List aY) (rs:List Int) (j:Int):List aY×List Int:=
 match t9.getLast? with
 |none=>(ns,rs++ [j])
 |some t=>match ns[t.toNat]? with
  |some p=>(ns.set t.toNat (p.1,(p.2.1,(p.2.2.1,(p.2.2.2.1++ [j],p.2.2.2.2)))),rs)
  |none=>(ns,rs)
theorem Oc (ns:List aY) (rs:List Int) (j:Int):rb [] ns rs j=(ns,rs++ [j]):=rfl
theorem Jc (q:List Int) (t:Int) (ns:List aY) (rs:List Int) (j:Int) {p:aY} (h:ns[t.toNat]? =some p):rb (q++ [t]) ns rs j=(ns.set t.toNat (p.1,(p.2.1,(p.2.2.1,(p.2.2.2.1++ [j],p.2.2.2.2)))),rs):=by
 unfold rb
 grind
structure CB (t9:List Int) (nm:List i6) (ns:List aY) (rs:List Int):Prop where
 t:∀ t∈t9,0<=t/\t<(ns.length:Int)
 d:t9.length<=200
 n:ns.length<=20000
 m:nm.length<=20000
 k:∀ p∈ns,p.2.2.2.1.length<=100000000
 r:rs.length<=100000000
theorem Hl (q:List Int) (t:Int) (h:(q++ [t]).length<=200):zao (len (q++ [t]) - 1)=(q.length:Int)/\(q++ [t])[(q.length:Int).toNat]? =some t:=by
 have h1:len (q++ [t]) - 1=(q.length:Int):=by unfold len;simp
 rw [h1];have h2:q.length<=200:=by simp at h;omega
 refine ⟨by rw [aj]<;>omega,?_⟩
 grind
theorem KA {R:Type} (r:List Int->List aY->List Int->Option R) (e k:Int) (t:List Int) (ns:List aY) (rs:List Int) (h:t.length<=200):TT r e k t ns rs=r (if e=3\/e=5 then t++ [k] else t) ns rs:=by
 unfold TT;by_cases h3:e=3
 .subst h3
  exact bS (v:=true) rfl (cT rfl (cT (aV (by simp;omega)) rfl))
 by_cases h5:e=5
 .subst h5
  exact bS (v:=true) rfl (cT rfl (cT (aV (by simp;omega)) rfl))
 grind
theorem Ew {R:Type} (r:List Int->List aY->List Int->Option R) (e k:Int) (t:List Int) (ns:List aY) (rs:List Int) (ht:∀ x∈t,0<=x/\x<(ns.length:Int)) (h:t.length<=200) (hk:∀ p∈ns,p.2.2.2.1.length<=100000000) (hr:rs.length<=100000000):
  TB r e k t ns rs=r (if e=3\/e=5 then t++ [k] else t) (rb t ns rs k).1 (rb t ns rs k).2:=by
 unfold TB;rcases List.eq_nil_or_concat t with e9 |⟨q,tp,e9⟩
 .subst e9
  rw [Oc];refine cF rfl (cT (aV (by simp;omega)) ?_);exact KA r e k [] ns (rs++ [k]) (by simp)
 .rw [List.concat_eq_append] at e9
  subst e9;have a0:=Hl q tp h;have tb:=ht tp (by simp);obtain ⟨p,hp⟩:∃ p,ns[tp.toNat]? =some p:=⟨_,zam (by omega)⟩;rw [Jc q tp _ _ _ hp];have pk:=hk p (List.mem_of_getElem? hp);have b1:(ak (0:Int) (q.length:Int) &&aD (q.length:Int) (len (q++ [tp])))=true:=by
   rw [af (by omega),ao (by unfold len;simp;omega)];rfl
  have b2:(ak (0:Int) tp &&aD tp (len ns))=true:=by
   rw [af tb.1,ao (by unfold len;omega)];rfl
  refine cT (ao (by unfold len;simp)) ?_;rw [a0.1];refine cT b1 (bS a0.2 (cT b2 (bS hp (cT (aV (by simp;omega)) (cT b2 (cT (Nat.beq_refl _) ?_))))));exact KA r e k _ _ rs h
theorem EN {R:Type} (r:List Int->List i6->List aY->List Int->Option R) (kd:Int) (x:cZ) {t9:List Int} {nm:List i6} {ns:List aY} {rs:List Int} (hb:CB t9 nm ns rs):
  SO r kd x t9 nm ns rs=r (if x.1=3\/x.1=5 then t9++ [len ns] else t9) (if x.2.2.2.1= [] then nm else nm++ [(x.2.2.2.1,len ns)]) (rb t9 (ns++ [(kd,(x.2.2.1,(x.2.1,([],x.2.2.2.2.1==1))))]) rs (len ns)).1 (rb t9 (ns++ [(kd,(x.2.2.1,(x.2.1,([],x.2.2.2.2.1==1))))]) rs (len ns)).2:=by
 have h1:∀ y∈t9,0<=y/\y<((ns++ [((kd,(x.2.2.1,(x.2.1,([],x.2.2.2.2.1==1)))):aY)]).length:Int):=fun y hy=>by have:=hb.t y hy;simp;omega
 have h2:∀ p∈ns++ [((kd,(x.2.2.1,(x.2.1,([],x.2.2.2.2.1==1)))):aY)],p.2.2.2.1.length<=100000000:=fun p hp=>by
  rcases List.mem_append.1 hp with h |h
  .exact hb.k p h
  grind
 have:=hb.n;have:=hb.m;unfold SO;refine cT (aV (by simp;omega)) ?_;by_cases ea:x.2.2.2.1= []
 .rw [if_pos ea]
  exact cF (by rw [ea];rfl) (Ew (fun a b c=>r a nm b c) x.1 (len ns) t9 _ rs h1 hb.d h2 hb.r)
 .rw [if_neg ea]
  exact cT (by simpa using ea) (cT (aV (by simp;omega)) (Ew (fun a b c=>r a (nm++ [(x.2.2.2.1,len ns)]) b c) x.1 (len ns) t9 _ rs h1 hb.d h2 hb.r))
theorem uK (n:Nat) (l:List cZ) (t9:List Int) (nm:List i6) (i:Nat) (ns:List aY) (rs:List Int) (x:cZ) (kd:Int) (hk:x.1=7/\kd=1\/x.1=3/\kd=2\/x.1=5/\kd=3) (hl:l.length<1000000000) (he:l[i]? =some x) (hb:CB t9 nm ns rs) (h1:ns.length<20000) (h2:x.1=7\/t9.length<200):
  ct (n+1) l 200 20000 t9 nm (i:Int) ns rs=ct n l 200 20000 (if x.1=3\/x.1=5 then t9++ [len ns] else t9) (if x.2.2.2.1= [] then nm else nm++ [(x.2.2.2.1,len ns)]) ((i+1:Nat):Int) (rb t9 (ns++ [(kd,(x.2.2.1,(x.2.1,([],x.2.2.2.2.1==1))))]) rs (len ns)).1 (rb t9 (ns++ [(kd,(x.2.2.1,(x.2.1,([],x.2.2.2.2.1==1))))]) rs (len ns)).2:=by
 have hi:i<l.length:=(List.getElem?_eq_some_iff.1 he).1;have w:=wS i;refine Eq.trans (by rfl) ?_;refine cT (ao (show (i:Int)<len l by unfold len;omega)) (cT (af (by omega)) (bS he ?_));rw [w];rcases hk with ⟨e,rfl⟩ |⟨e,rfl⟩ |⟨e,rfl⟩
 .rw [e] at h2
  refine cF (by rw [e];rfl) (cF (by rw [e];rfl) (cF (by rw [e];rfl) (cF (by rw [e];rfl) (cF (by rw [e];rfl) (bS (v:=false) (by rw [e];rfl) (cF rfl (cF (eA (by unfold len;omega)) (cF (by rw [e];rfl) (cF (by rw [e];rfl) (EN _ _ x hb))))))))))
 .rw [e] at h2
  refine cF (by rw [e];rfl) (cF (by rw [e];rfl) (cF (by rw [e];rfl) (cF (by rw [e];rfl) (cF (by rw [e];rfl) (bS (v:=false) (by rw [e];exact congrArg some (eA (by unfold len;omega))) (cF rfl (cF (eA (by unfold len;omega)) (cT (by rw [e];rfl) (cF (by rw [e];rfl) (EN _ _ x hb))))))))))
 .rw [e] at h2
  refine cF (by rw [e];rfl) (cF (by rw [e];rfl) (cF (by rw [e];rfl) (cF (by rw [e];rfl) (cF (by rw [e];rfl) (bS (v:=false) (by rw [e];exact congrArg some (eA (by unfold len;omega))) (cF rfl (cF (eA (by unfold len;omega)) (cF (by rw [e];rfl) (cT (by rw [e];rfl) (EN _ _ x hb))))))))))
theorem PI (n:Nat) (l:List cZ) (t9:List Int) (nm:List i6) (i:Nat) (ns:List aY) (rs:List Int) (s t a:List UInt8) (st:Int) (fl:Bool) (hl:l.length<1000000000) (he:l[i]? =some (8,(s,(t,(a,(st,fl)))))) (hb:CB t9 nm ns rs) (hn:nm.length+1<=n) (hp:0<=kU a (-1) nm):
  ct (n+1) l 200 20000 t9 nm (i:Int) ns rs=ct n l 200 20000 t9 nm ((i+1:Nat):Int) (rb t9 ns rs (kU a (-1) nm)).1 (rb t9 ns rs (kU a (-1) nm)).2:=by
 have hi:i<l.length:=(List.getElem?_eq_some_iff.1 he).1;have w:=wS i;have hsr:=Il l 200 20000 t9 (i:Int) ns rs 8 s t a st fl nm (by have:=hb.m;omega) nm 0 (n+2) (-1) rfl (Nat.zero_le _) (by omega);refine Eq.trans (by unfold ct;rfl) ?_;refine cT (ao (show (i:Int)<len l by unfold len;omega)) (cT (af (by omega)) (bS he ?_));refine cF rfl (cF rfl (cF rfl (cF rfl (cT rfl (bS hsr (cF (aC hp) ?_))))));rw [w];exact Ew _ 8 _ t9 ns rs hb.t hb.d hb.k hb.r
theorem step_end (n:Nat) (l:List cZ) (t9:List Int) (tp:Int) (nm:List i6) (i:Nat) (ns:List aY) (rs:List Int) (m:Bool) (hl:l.length<1000000000) (he:l[i]? =some (eE m)) (hd:(t9++ [tp]).length<=200):
  ct (n+1) l 200 20000 (t9++ [tp]) nm (i:Int) ns rs=ct n l 200 20000 t9 nm ((i+1:Nat):Int) ns rs:=by
 have hi:i<l.length:=(List.getElem?_eq_some_iff.1 he).1;have w:=wS i;have a0:=Hl t9 tp hd;have b1:(ak (0:Int) (t9.length:Int) &&ak (t9.length:Int) (len (t9++ [tp])))=true:=by
  rw [af (by omega),af (by unfold len;simp;omega)];rfl
 have tk:List.take ((Int.toNat (t9.length:Int)) - 0) (List.drop 0 (t9++ [tp]))=t9:=by
  show List.take t9.length (t9++ [tp])=t9
  simp
 refine Eq.trans (by unfold ct;rfl) ?_;refine cT (ao (show (i:Int)<len l by unfold len;omega)) (cT (af (by omega)) (bS he ?_));simp only [a0.1];cases m with
 |false=>
  refine cF rfl (cF rfl (cT rfl (cT b1 ?_)));rw [w,tk]
 |true=>
  refine cF rfl (cF rfl (cF rfl (cT rfl (cT b1 ?_))));rw [w,tk]
theorem K3 (n:Nat) (l:List cZ) (t9:List Int) (nm:List i6) (i:Nat) (ns:List aY) (rs:List Int) (b:Bool) (hl:l.length<1000000000) (he:l[i]? =some (iQ b)):
  ct (n+1) l 200 20000 t9 nm (i:Int) ns rs=ct n l 200 20000 t9 [] ((i+1:Nat):Int) ns rs:=by
 have hi:i<l.length:=(List.getElem?_eq_some_iff.1 he).1;have w:=wS i;refine Eq.trans (by unfold ct;rfl) ?_;refine cT (ao (show (i:Int)<len l by unfold len;omega)) (cT (af (by omega)) (bS he (cT rfl ?_)));rw [w]
theorem step_done (n:Nat) (l:List cZ) (t9:List Int) (nm:List i6) (i:Nat) (ns:List aY) (rs:List Int) (hl:l.length<1000000000) (he:l[i]? =some dG):
  ct (n+1) l 200 20000 t9 nm (i:Int) ns rs=ct n l 200 20000 t9 nm ((i+1:Nat):Int) ns rs:=by
 have hi:i<l.length:=(List.getElem?_eq_some_iff.1 he).1;have w:=wS i;refine Eq.trans (by unfold ct;rfl) ?_;refine cT (ao (show (i:Int)<len l by unfold len;omega)) (cT (af (by omega)) (bS he (cF rfl (cT rfl ?_))));rw [w]
def qm (t9:List Int) (ns:List aY) (a:List Int):List aY:=match t9.getLast? with
 |none=>ns
 |some t=>ns.modify t.toNat fun p=>(p.1,(p.2.1,(p.2.2.1,(p.2.2.2.1++a,p.2.2.2.2))))
def wb (t9 rs a:List Int):List Int:=match t9.getLast? with
 |none=>rs++a
 |some _=>rs
theorem kN (t9:List Int) (ns:List aY) (a:List Int):(qm t9 ns a).length=ns.length:=by
 unfold qm;split<;>simp
theorem yZ (t9:List Int) (ns:List aY) (a b:List Int):qm t9 (qm t9 ns a) b=qm t9 ns (a++b):=by
 unfold qm;split
 .rfl
 .rw [List.modify_modify_eq]
  congr 1
  funext p;simp
theorem zr (t9 rs a b:List Int):wb t9 (wb t9 rs a) b=wb t9 rs (a++b):=by
 unfold wb;split<;>simp
theorem tj {t9:List Int} {ns:List aY} {rs:List Int} {j:Int} (h:∀ t∈t9,0<=t/\t<(ns.length:Int)):rb t9 ns rs j=(qm t9 ns [j],wb t9 rs [j]):=by
 unfold rb qm wb;cases ht:t9.getLast? with
 |none=>rfl
 |some t=>
  have:=h t (List.mem_of_getLast? ht);have hx:ns[t.toNat]? =some ns[t.toNat]:=zam (show t.toNat<ns.length by omega);simp only [hx]
  congr 1
  apply List.ext_getElem?;intro k;rw [List.getElem?_set,List.getElem?_modify];by_cases e:t.toNat=k
  .subst e
   rw [if_pos rfl,if_pos (show t.toNat<ns.length by omega),hx];simp
  .rw [if_neg e]
   cases ns[k]? <;>simp [e]
theorem Qh {u:List co} {o:List Int} {f:List Int} {k:Int} (h1:k∈o) (h2:BB u k=true):kU (Fa u o k) (-1) (mI f 0 (iP u o))=dN f k:=by
 have:=IB f k (iP u o) 0 (-1) (kA.2 ⟨h1,h2⟩);rw [Nat.zero_add] at this;exact this
theorem K7 {u:List co} {o r f:List Int} {k:Int} (hk:k∉o) (hf:f=o++k::r):(if zV u o k= [] then mI f 0 (iP u o) else mI f 0 (iP u o)++ [(zV u o k,(o.length:Int))])=mI f 0 (iP u (o++ [k])):=by
 rw [tq,tL];cases hu:BB u k with
 |false=>
  have:zV u o k= []:=by unfold zV;rw [hu];rfl
  grind
 |true=>
  have ha:zV u o k=oy ((iP u o).length+1):=by unfold zV;rw [hu];rfl
  have hne:oy ((iP u o).length+1)≠ []:=by simp [oy]
  rw [ha,if_neg hne,if_pos rfl,P1,Nat.zero_add];simp only [mI];rw [hf,mu hk]
def dl (e:cZ):Int:=if e.1=3\/e.1=5 then 1 else if e.1=4\/e.1=6 then -1 else 0
def mQ:List cZ->Int
 | []=>0
 |e::r=>dl e+mQ r
def ql:List cZ->Int
 | []=>0
 |e::r=>max 0 (dl e+ql r)
theorem Bl (a b:List cZ):mQ (a++b)=mQ a+mQ b:=by
 induction a with
 |nil=>simp [mQ]
 |cons e a ih=>simp only [List.cons_append,mQ,ih];omega
theorem vb (a:List cZ):0<=ql a:=by
 cases a with
 |nil=>exact Int.le_refl _
 |cons e a=>unfold ql;omega
theorem F8 (a b:List cZ):ql (a++b)=max (ql a) (mQ a+ql b):=by
 induction a with
 |nil=>have:=vb b;simp only [List.nil_append,ql,mQ];omega
 |cons e a ih=>simp only [List.cons_append,ql,mQ,ih];omega
theorem Sq (m:Bool) (x:List UInt8×(List UInt8×(List UInt8×lw))):dl (jB m,x)=1:=by cases m<;>rfl
theorem So (m:Bool):dl (eE m)= -1:=by cases m<;>rfl
theorem Oz {F key m odd:Bool} {d k:Nat} {w:List cZ} (h:sT F key m odd d k w):ql w<=d/\mQ w=0:=by
 induction h with
 |nil=>exact ⟨by unfold ql;omega,rfl⟩
 |@leaf key m odd d k e r h1 _ ih=>
  have h0:dl e=0:=by
   unfold dl;rcases jS h1 with h |h<;>rw [h]<;>rfl
  simp only [ql,mQ,h0];omega
 |jy h1 _ _ _ ih1 ih2=>
  obtain ⟨t,a,rfl,_,_⟩:=h1;simp only [ql,mQ,F8,Bl,Sq,So];omega
def UZ (C:List UInt8->List UInt8) (g:List aY) (f:List Int) (x:Int) (e:aY):Prop:=
 ∃ kd tg s kk plx t st,g[x.toNat]? =some (kd,(tg,(s,(kk,plx))))/\e=(kd,(t,(s,(kk.map (dN f),st==(1:Int)))))/\qx C kd t (if kd=1 then s else []) (st==1)=tg/\(kd≠1->(st==(1:Int))=false)
theorem QJ (t9:List Int) (ns:List aY):qm t9 ns []=ns:=by
 unfold qm;split
 .rfl
 .have:(fun p:aY=>(p.1,(p.2.1,(p.2.2.1,(p.2.2.2.1++([]:List Int),p.2.2.2.2)))))=id:=by funext p;simp
  simp_all
theorem P0 (t9 rs:List Int):wb t9 rs []=rs:=by
 unfold wb;split<;>simp
theorem Rs {α:Type} (q:α->α):∀ (A:List α) (p:α) (B:List α),(A++p::B).modify A.length q=A++q p::B:=by
 intro A
 induction A with
 |nil=>intro p B;rfl
 |cons a A ih=>grind
theorem Nj {α:Type} (q:α->α):∀ (A B:List α) (i:Nat),i<A.length->(A++B).modify i q=A.modify i q++B:=by
 intro A
 induction A with
 |nil=>grind
 |cons a A ih=>
  grind
theorem lG (t9:List Int) (ns m:List aY) (a:List Int) (h:∀ t∈t9,0<=t/\t<(ns.length:Int)):qm t9 (ns++m) a=qm t9 ns a++m:=by
 unfold qm;cases ht:t9.getLast? with
 |none=>rfl
 |some t=>
  have:=h t (List.mem_of_getLast? ht);simp only;exact Nj _ ns m t.toNat (by omega)
theorem PS (t9:List Int) (ns:List aY) (p:aY) (m:List aY) (a:List Int):qm (t9++ [(ns.length:Int)]) (ns++p::m) a=ns++(p.1,(p.2.1,(p.2.2.1,(p.2.2.2.1++a,p.2.2.2.2))))::m:=by
 unfold qm;rw [List.getLast?_append];simp only [List.getLast?_singleton,Option.some_or];exact Rs _ ns p m
theorem Ez {t9:List Int} {ns:List aY} {a:List Int} {b:Nat} (h:∀ p∈ns,p.2.2.2.1.length<=b):∀ p∈qm t9 ns a,p.2.2.2.1.length<=b+a.length:=by
 unfold qm;split
 .grind
 .intro p hp
  obtain ⟨j,hj⟩:=List.mem_iff_getElem?.1 hp
  grind
theorem Am (t9 rs a:List Int):(wb t9 rs a).length<=rs.length+a.length:=by
 unfold wb;split<;>simp
theorem Qw {C:List UInt8->List UInt8} {g:List aY} {u:List co} {o o' ks:List Int} {w:List cZ} (h:bA C g u o ks w o'):mQ w=0:=by
 induction h with
 |nil=>rfl
 |alias _ _ _ ih=>simp only [mQ,ih];rfl
 |scalar _ _ _ _ ih=>simp only [mQ,ih];rfl
 |jy _ _ _ _ _ ih1 ih2=>simp only [mQ,Bl,ih1,ih2,Sq,So];rfl
theorem Sa {C:List UInt8->List UInt8} {g:List aY} {u:List co} {o o' ks:List Int} {w:List cZ} (h:bA C g u o ks w o'):ks.length<=w.length:=by
 induction h with
 |nil=>omega
 |alias _ _ _ ih=>simp;omega
 |scalar _ _ _ _ ih=>simp;omega
 |jy _ _ _ _ _ ih1 ih2=>simp;omega
theorem Lw {u:List co} {f o t9 rs:List Int} {ns:List aY} {i:Nat} (h1:ns.length=o.length) (h2:∀ p∈ns,p.2.2.2.1.length<=i) (h3:rs.length<=i) (h4:i<=90000000) (h5:∀ t∈t9,0<=t/\t<(ns.length:Int)) (h6:t9.length<=200) (h7:o.length<=20000):CB t9 (mI f 0 (iP u o)) ns rs:=by
 have:=zK u o;exact ⟨h5,h6,by omega,by rw [Oo];omega,fun p hp=>by grind,by omega⟩
set_option maxHeartbeats 1000000 in
theorem Mn {C:List UInt8->List UInt8} {g:List aY} {u:List co} (l:List cZ) (hl:l.length<1000000000) {o o' ks:List Int} {w:List cZ} (h:bA C g u o ks w o'):∀ (f r:List Int),f=o'++r->∀ (i n:Nat) (t9:List Int) (ns:List aY) (rs:List Int) (post:List cZ),l.drop i=w++post->ns.length=o.length->(∀ p∈ns,p.2.2.2.1.length<=i)->rs.length<=i->i+w.length<=90000000->(∀ t∈t9,0<=t/\t<(ns.length:Int))->(t9.length:Int)+ql w<=200->o'.length<=20000->20000<n->
  ∃ E:List aY,E.length+o.length=o'.length/\(∀ j x e,o'[o.length+j]? =some x->E[j]? =some e->UZ C g f x e)/\(∀ p∈E,p.2.2.2.1.length<=i+w.length)/\
   ct (n+w.length) l 200 20000 t9 (mI f 0 (iP u o)) (i:Int) ns rs=ct n l 200 20000 t9 (mI f 0 (iP u o')) ((i+w.length:Nat):Int) (qm t9 ns (ks.map (dN f))++E) (wb t9 rs (ks.map (dN f))):=by
 induction h with
 |@nil o=>
  intro f r hf i n t9 ns rs post hd hn hk hr hi ht hh ho hnn;refine ⟨[],by simp,(fun j x e _ h=>by simp at h),(fun p hp=>by simp at hp),?_⟩;simp only [List.map_nil,QJ,P0,List.append_nil];rfl
 |@alias o o' ks k w h1 h2 h3 ih=>
  intro f r hf i n t9 ns rs post hd hn hk hr hi ht hh ho hnn;simp only [zad] at hi ⊢;have hx:=dh hd 0;simp only [Nat.add_zero,List.cons_append,List.getElem?_cons_zero] at hx;have hd1:l.drop (i+1)=w++post:=sy hd;obtain ⟨q,hq⟩:=h3.pre;have hol:o.length<=20000:=by have:=congrArg List.length hq;simp at this;omega
  have hg0:=vb w;have hh':(t9.length:Int)+ql w<=200:=by
   simp only [ql] at hh;have:dl ((8,([],([],(Fa u o k,(0,false))))):cZ)=0:=rfl;rw [this] at hh;omega
  have cb:CB t9 (mI f 0 (iP u o)) ns rs:=Lw hn hk hr (by omega) ht (by omega) hol;have fn:=Qh (f:=f) h1 h2;have hkf:k∈f:=by rw [hf];exact List.mem_append_left _ (h3.pre.elim fun a e=>e▸List.mem_append_left _ h1)
  have hp:=(zG hkf).1;have st:=PI (n+w.length) l t9 (mI f 0 (iP u o)) i ns rs [] [] (Fa u o k) 0 false hl hx cb (by have:=cb.m;omega) (by omega);rw [fn,tj ht] at st;obtain ⟨E,e1,e2,e3,e4⟩:=ih f r hf (i+1) n t9 (qm t9 ns [dN f k]) (wb t9 rs [dN f k]) post hd1 (by rw [kN];exact hn) (Ez hk) (by have:=Am t9 rs [dN f k];grind) (by omega) (by rw [kN];exact ht) hh' ho hnn;refine ⟨E,e1,e2,fun p hp=>by grind,?_⟩;rw [show n+(w.length+1)=n+w.length+1 by omega,st,e4,yZ,zr,show i+1+w.length=i+(w.length+1) by omega];rfl
 |@scalar o o' ks k st w tg s t pl h1 h2 h3 h4 ih=>
  intro f r hf i n t9 ns rs post hd hn hk hr hi ht hh ho hnn;simp only [zad] at hi ⊢;have hx:=dh hd 0;simp only [Nat.add_zero,List.cons_append,List.getElem?_cons_zero] at hx;have hd1:l.drop (i+1)=w++post:=sy hd;obtain ⟨q,hq⟩:=h4.pre;have hol:o.length<20000:=by have:=congrArg List.length hq;simp at this;omega
  have hg0:=vb w;have hh':(t9.length:Int)+ql w<=200:=by
   simp only [ql] at hh;have:dl ((7,(s,(t,(zV u o k,(st,false))))):cZ)=0:=rfl;rw [this] at hh;omega
  have cb:CB t9 (mI f 0 (iP u o)) ns rs:=Lw hn hk hr (by omega) ht (by omega) (by omega);have hfo:f=o++k::(q++r):=by rw [hf,hq];simp
  have hp:dN f k=o.length:=by rw [hfo];exact mu h1
  have nn:=K7 (u:=u) h1 hfo;rw [←hp] at nn;have sp:=uK (n+w.length) l t9 (mI f 0 (iP u o)) i ns rs _ 1 (.inl ⟨rfl,rfl⟩) hl hx cb (by omega) (.inl rfl);have hln:len ns=(o.length:Int):=by unfold len;rw [hn]
  have ht1:∀ y∈t9,0<=y/\y<((ns++ [((1,(t,(s,([],st==1)))):aY)]).length:Int):=fun y hy=>by grind
  simp only [hln,tj ht1,←hp,nn,lG t9 ns _ _ ht] at sp;rw [if_neg (by decide)] at sp;obtain ⟨E,e1,e2,e3,e4⟩:=ih f r hf (i+1) n t9 (qm t9 ns [dN f k]++ [(1,(t,(s,([],st==1))))]) (wb t9 rs [dN f k]) post hd1 (by simp [kN,hn]) (fun p hp=>by
    rcases List.mem_append.1 hp with h |h
    .exact Ez hk p h
    grind) (by have:=Am t9 rs [dN f k];grind) (by omega) (fun y hy=>by have:=ht y hy;simp [kN];omega) hh' ho hnn
  refine ⟨(1,(t,(s,([],st==1))))::E,by grind,fun j x e hj he=>?_,fun p hp=>?_,?_⟩
  .cases j with
   |zero=>
    simp only [List.getElem?_cons_zero,Option.some.injEq] at he;have hx2:o'[o.length+0]? =some k:=by rw [hq];simp
    rw [hx2] at hj;injection hj with hj
    subst hj;subst he;exact ⟨1,tg,s,[],pl,t,st,h2,rfl,h3,fun h=>absurd rfl h⟩
   |succ j=>
    grind
  .grind
  .rw [show n+(w.length+1)=n+w.length+1 by omega,sp,e4,lG t9 _ _ _ (by rw [kN];exact ht),yZ,zr,show i+1+w.length=i+(w.length+1) by omega,List.append_assoc]
   rfl
 |@jy o o1 o' ks kk k w1 w tg t m fl pl h1 h2 h3 h4 h5 ih1 ih2=>
  intro f r hf i n t9 ns rs post hd hn hk hr hi ht hh ho hnn;simp only [zad,zaf] at hi ⊢;have hx:=dh hd 0;simp only [Nat.add_zero,List.cons_append,List.getElem?_cons_zero] at hx;have hd1:l.drop (i+1)=w1++(eE m::(w++post)):=by rw [←zak,hd];simp
  have hd2:l.drop (i+1+w1.length)=eE m::(w++post):=by rw [←zak,hd1];simp
  have hd3:l.drop (i+1+w1.length+1)=w++post:=by rw [←zak,hd2];rfl
  have hx2:=dh hd2 0;simp only [Nat.add_zero,List.getElem?_cons_zero] at hx2;obtain ⟨q1,hq1⟩:=h4.pre;obtain ⟨q2,hq2⟩:=h5.pre;have hol1:o1.length<=20000:=by have:=congrArg List.length hq2;simp at this;omega
  have hol:o.length<20000:=by have:=congrArg List.length hq1;simp at this;omega
  have hg0:=vb w;have hg1:=vb w1;have es:=Qw h4;have hh1:(t9.length:Int)+1+ql w1<=200/\(t9.length:Int)+ql w<=200:=by
   simp only [ql,F8,Sq,So,es] at hh;omega
  have cb:CB t9 (mI f 0 (iP u o)) ns rs:=Lw hn hk hr (by omega) ht (by omega) (by omega);have hf1:f=o1++(q2++r):=by rw [hf,hq2];simp
  have hfo:f=o++k::(q1++(q2++r)):=by rw [hf1,hq1];simp
  have hp:dN f k=o.length:=by rw [hfo];exact mu h1
  have nn:=K7 (u:=u) h1 hfo;rw [←hp] at nn;have hln:len ns=(o.length:Int):=by unfold len;rw [hn]
  have hnl:((qm t9 ns [dN f k]).length:Int)=dN f k:=by rw [kN,hn,hp]
  have sp:ct (n+w.length+1+w1.length+1) l 200 20000 t9 (mI f 0 (iP u o)) (i:Int) ns rs=ct (n+w.length+1+w1.length) l 200 20000 (t9++ [dN f k]) (mI f 0 (iP u (o++ [k]))) ((i+1:Nat):Int) (qm t9 ns [dN f k]++ [((bif m then 3 else 2),(t,([],([],false))))]) (wb t9 rs [dN f k]):=by
   cases m with
   |false=>
    have sp:=uK (n+w.length+1+w1.length) l t9 (mI f 0 (iP u o)) i ns rs _ 2 (.inr (.inl ⟨rfl,rfl⟩)) hl hx cb (by omega) (.inr (by omega));have ht1:∀ y∈t9,0<=y/\y<((ns++ [((2,(t,([],([],(0:Int)==1)))):aY)]).length:Int):=fun y hy=>by grind
    simp only [hln,tj ht1,←hp,nn,lG t9 ns _ _ ht] at sp;exact sp
   |true=>
    have sp:=uK (n+w.length+1+w1.length) l t9 (mI f 0 (iP u o)) i ns rs _ 3 (.inr (.inr ⟨rfl,rfl⟩)) hl hx cb (by omega) (.inr (by omega));have ht1:∀ y∈t9,0<=y/\y<((ns++ [((3,(t,([],([],(0:Int)==1)))):aY)]).length:Int):=fun y hy=>by grind
    simp only [hln,tj ht1,←hp,nn,lG t9 ns _ _ ht] at sp;exact sp
  have hkA:∀ p∈qm t9 ns [dN f k],p.2.2.2.1.length<=i+1:=Ez hk;have hrA:(wb t9 rs [dN f k]).length<=i+1:=by have:=Am t9 rs [dN f k];simp at this;omega
  have hks:=Sa h4;obtain ⟨E1,e1,e2,e3,e4⟩:=ih1 f (q2++r) hf1 (i+1) (n+w.length+1) (t9++ [dN f k]) (qm t9 ns [dN f k]++ [((bif m then 3 else 2),(t,([],([],false))))]) (wb t9 rs [dN f k]) (eE m::(w++post)) hd1 (by grind) (fun p hp=>by
    grind) hrA (by omega) (fun y hy=>by
    grind) (by simp;omega) hol1 (by omega)
  have hur:wb (t9++ [dN f k]) (wb t9 rs [dN f k]) (kk.map (dN f))=wb t9 rs [dN f k]:=by
   conv=>lhs;unfold wb
   rw [List.getLast?_append];rfl
  have htop:=PS t9 (qm t9 ns [dN f k]) ((bif m then 3 else 2),(t,([],([],false)))) [] (kk.map (dN f));rw [hnl] at htop;rw [hur,htop] at e4;have se:=step_end (n+w.length) l t9 (dN f k) (mI f 0 (iP u o1)) (i+1+w1.length) (qm t9 ns [dN f k]++ [((bif m then 3 else 2),(t,([],([]++kk.map (dN f),false))))]++E1) (wb t9 rs [dN f k]) m hl hx2 (by simp;omega);obtain ⟨E2,d1,d2,d3,d4⟩:=ih2 f r hf (i+1+w1.length+1) n t9 (qm t9 ns [dN f k]++ [((bif m then 3 else 2),(t,([],([]++kk.map (dN f),false))))]++E1) (wb t9 rs [dN f k]) post hd3 (by grind) (fun p hp=>by
    grind) (by omega) (by omega) (fun y hy=>by grind) hh1.2 ho hnn
  refine ⟨((bif m then 3 else 2),(t,([],(kk.map (dN f),false))))::(E1++E2),by grind,fun j x e hj he=>?_,fun p hp=>?_,?_⟩
  .cases j with
   |zero=>
    simp only [List.getElem?_cons_zero,Option.some.injEq] at he;have hx3:o'[o.length+0]? =some k:=by rw [hq2,hq1];simp
    rw [hx3] at hj;injection hj with hj
    subst hj;subst he;refine ⟨_,tg,[],kk,pl,t,0,h2,rfl,?_,fun _=>rfl⟩
    grind
   |succ j=>
    simp only [List.getElem?_cons_succ] at he;by_cases hj1:j<E1.length
    .rw [List.getElem?_append_left hj1] at he
     refine e2 j x e ?_ he;have:(o++ [k]).length+j<o1.length:=by simp at e1 ⊢;omega
     rw [←hj,hq2,List.getElem?_append_left (by simp at this ⊢;omega)]
     congr 1
     simp;omega
    .rw [List.getElem?_append_right (by omega)] at he
     refine d2 (j - E1.length) x e ?_ he;rw [←hj]
     congr 1
     simp at e1;omega
  .rcases List.mem_cons.1 hp with h |h
   .rw [h];simp;omega
   .rcases List.mem_append.1 h with h |h
    .have:=e3 p h;omega
    .have:=d3 p h;omega
  .rw [show n+(w1.length+(w.length+1)+1)=n+w.length+1+w1.length+1 by omega,sp,e4,se,d4]
   have ht2:∀ y∈t9,0<=y/\y<((qm t9 ns [dN f k]).length:Int):=by rw [kN];exact ht
   rw [List.append_assoc,lG t9 _ _ _ ht2,yZ,zr,show i+1+w1.length+1+w.length=i+(w1.length+(w.length+1)+1) by omega,List.append_assoc];simp only [List.nil_append,List.append_assoc,List.cons_append,List.map_cons]
def sk (s:List UInt8):List UInt8:=bif V.PL s then [110,117,108,108] else bif V.MH s ||V.QD s then [98,111,111,108] else bif (V.iv s).2.1 then [105,110,116] else bif (V.fl s).2.1 then [102,108,111,97,116] else [115,116,114]
theorem Jz (s:List UInt8):(sk s).length<=5:=by
 unfold sk;cases V.PL s<;>cases V.MH s ||V.QD s<;>cases (V.iv s).2.1<;>cases (V.fl s).2.1<;>decide
theorem HG (n:Nat) (s:List UInt8) (hs:s.length<=8100) (hn:27000<=n):core n s=some (sk s,()):=by
 unfold core sk;rw [V.A2,zaa,V.N0 n s (by omega),zaa,V.Dx n s hs (by omega),zaa,V.Ft,zaa];cases V.PL s<;>cases V.MH s ||V.QD s<;>cases (V.iv s).2.1<;>cases (V.fl s).2.1<;>rfl
def qv (s:List UInt8):List UInt8:=Me++sk s
theorem D6 (n:Nat) (s:List UInt8) (hs:s.length<=8100) (hn:27000<=n):Hg n s=some (qv s,()):=by
 unfold Hg qv sk;rw [V.HL n s (by omega),zaa,V.AR (n+1) s hs (by omega),zaa,V.E4 (n+1) s (by omega),zaa,V.IZ (n+1) s (by omega),zaa,V.LY (n+1) s (by omega),zaa];cases V.PL s<;>cases V.MH s<;>cases V.QD s<;>cases (V.iv s).2.1<;>cases (V.fl s).2.1<;>rfl
theorem Jr (n:Nat) (k:Int):NZ n k=some (G6 k,()):=by
 unfold NZ G6;by_cases h1:k=1
 .subst h1;rfl
 by_cases h2:k=2
 .subst h2;rfl
 by_cases h3:k=3
 .subst h3;rfl
 have e1:(k==1)=false:=by simp [h1]
 have e2:(k==2)=false:=by simp [h2]
 have e3:(k==3)=false:=by simp [h3]
 rw [if_neg h1,if_neg h2,if_neg h3,e1,e2,e3];rfl
theorem sj (n:Nat) (k:Int) (s:List UInt8):nC n k s=some (if s=G6 k then [] else s,()):=by
 unfold nC;rw [Jr,zaa];by_cases h:s=G6 k
 .rw [if_pos h,show (s==G6 k)=true from by rw [h];exact beq_self_eq_true _];rfl
 .rw [if_neg h,show (s==G6 k)=false from beq_false_of_ne h];rfl
theorem uM {C:List UInt8->List UInt8} {k:Int} {tg s:List UInt8} {pl:Bool} (h1:tg≠ []) (h2:tg≠ [33]) (h:k≠1\/pl=false):qx C k (if tg=G6 k then [] else tg) s pl=tg:=by
 unfold qx;by_cases hd:tg=G6 k
 .rw [if_pos hd,if_neg (by simp),if_pos (.inr h)];exact hd.symm
 .rw [if_neg hd,if_pos ⟨h1,h2⟩]
theorem Qy {C:List UInt8->List UInt8} {k:Int} {tg s:List UInt8} {pl:Bool} (h1:tg≠ []) (h2:tg≠ [33]):qx C k tg s pl=tg:=by
 unfold qx;rw [if_pos ⟨h1,h2⟩]
theorem Nc {C:List UInt8->List UInt8} {s:List UInt8}:qx C 1 [] s true=C s:=by
 unfold qx;rw [if_neg (by simp),if_neg (by simp)]
abbrev Dq:=Int×ci
abbrev UW:=(List Dq×(List Int×(Int×(Int×(Int×(Bool×(Bool×(Unit×(Unit×(Int×(List cZ×Unit)))))))))))×(List co×(List ls×Unit))
abbrev KN (g:List Dq) (rt:List Int) (c2 c3 c4:Int) (c5 c6:Bool) (c9:Int) (c10:List cZ) (u:List co) (nm:List ls):UW:=
 ((g,(rt,(c2,(c3,(c4,(c5,(c6,((),((),(c9,(c10,()))))))))))),(u,(nm,())))
abbrev U3:=Nat->Int->Bool->Int->List Dq->List Int->Int->Int->Int->Bool->Bool->Int->List cZ->List co->List ls->Option (dg×UW)
theorem zj (n:Nat) (k:Int) (tg s:List UInt8) (kd:List Int) (pl:Bool) (inner:Bool) (hk:k=1) (hs:s.length<=8100) (xs:List Int) (hx:d8 s.length s=some xs) (ht:eG tg=true) (htl:tg.length<=1000) (ht0:tg≠ []) (ht1:tg≠ [33]) (hn:27000<=n)
  (g:List Dq) (rt:List Int) (c2 c3 c4:Int) (c5 c6:Bool) (c9:Int) (out:List cZ) (u:List co) (nm:List ls):
  ∃ t st,pI n (k,(tg,(s,(kd,pl)))) inner g rt c2 c3 c4 c5 c6 c9 out u nm=some (((7,(s,(t,([],(st,false))))),()),KN g rt c2 c3 c4 c5 c6 c9 out u nm)/\B6 t/\Cb st s xs inner=true/\qx qv 1 t s (st==1)=tg:=by
 subst hk;have hm:=Mh n c4 s xs inner (by omega) (by omega) hx;have hte:=sj (n+9) 1 tg;generalize hte':(if tg=G6 1 then [] else tg)=t at hte;have tok:B6 t:=by
  rw [←hte'];split
  .exact .inl rfl
  .exact .inr ⟨ht,by omega⟩
 have rs:∀ p:Bool,p=false->qx qv 1 t s p=tg:=fun p hp=>by rw [←hte'];exact uM ht0 ht1 (.inr hp)
 have rs2:t≠ []->∀ p,qx qv 1 t s p=tg:=fun h p=>by
  have:t=tg:=by
   rw [←hte'] at h ⊢;split
   .rename_i hd;rw [if_pos hd] at h;exact absurd rfl h
   .rfl
  rw [this];exact Qy ht0 ht1
 have hcr:=HG (n+3) s hs (by omega);have hcl:=Jz s;have hct:Me++sk s=qv s:=rfl;generalize sk s=cr at hcr hcl hct;have rm:room (List.length ([116,97,103,58,121,97,109,108,46,111,114,103,44,50,48,48,50,58]:List UInt8)+List.length cr)=true:=aV (by simp;omega);have k1:(((1:Int)) !=1)=false:=rfl;unfold pI;simp only [hm,hte,hcr,zaa,rm,zac,k1,zab];cases hb:Cb c4 s xs inner with
 |false=>exact ⟨t,3,rfl,tok,v8 _ _ _,rs _ rfl⟩
 |true=>
  simp only [zag,zab];by_cases h4:c4=1
  .have e:(c4 !=1)=false:=by simp [h4]
   have e':(c4==1)=true:=by simp [h4]
   simp only [e,zab];cases hq:(([116,97,103,58,121,97,109,108,46,111,114,103,44,50,48,48,50,58]:List UInt8)++cr)==tg with
   |true=>
    refine ⟨[],c4,rfl,.inl rfl,hb,?_⟩;rw [e',Nc,←hct];exact eq_of_beq hq
   |false=>
    cases hz:t== [] with
    |true=>exact ⟨t,3,rfl,tok,v8 _ _ _,rs _ rfl⟩
    |false=>exact ⟨t,c4,rfl,tok,hb,rs2 (fun e=>by rw [e] at hz;cases hz) _⟩
  .have e:(c4 !=1)=true:=by simp [h4]
   simp only [e,zac];exact ⟨t,c4,rfl,tok,hb,rs _ (by simp [h4])⟩
theorem sT.one {F key m odd:Bool} {d:Nat} {w:List cZ} (h:sT F (key ||(m && !odd)) false false d 1 w):sT F key m odd d 1 w:=by
 generalize hk:(1:Nat)=k at h;cases h with
 |nil=>cases hk
 |@leaf _ _ _ _ k e r h1 h2=>
  have:k=0:=by omega
  subst this;cases h2;simp only [Bool.not_false,Bool.and_true,Bool.false_and,Bool.or_false] at h1;exact .leaf h1 .nil
 |@jy _ _ _ d k m2 k2 e w r h1 h2 h3 h4=>
  have:k=0:=by omega
  subst this;cases h4;simp only [Bool.false_and,Bool.or_false] at h1 h3;exact .jy h1 h2 h3 .nil
def s7 (c9:Int) (out:List cZ):Int:=out.length+402*(20001 - c9)
structure xf (N:Nat) (x:Dq):Prop where
 tag:eG x.2.1=true
 tl:x.2.1.length<=1000
 t0:x.2.1≠ []
 t1:x.2.1≠ [33]
 kl:x.2.2.2.1.length<=400
 kr:∀ c∈x.2.2.2.1,0<=c/\c<(N:Int)
 sc:x.1=1->x.2.2.2.1= []/\x.2.2.1.length<=8100/\∃ xs,d8 x.2.2.1.length x.2.2.1=some xs
 kd:x.1=1\/x.1=2\/x.1=3
 tx:x.1≠1->x.2.2.1= []
 ev:x.1=3->x.2.2.2.1.length%2=0
section
variable (g:List Dq) (rt:List Int) (c2 c3 c4:Int) (c5 c6:Bool) (u:List co)
abbrev VU (g:List Dq) (u:List co):List Int->List Int->List Int->Prop:=lu (fun x=>BB u x=true) (bt g)
def iw (key:Bool) (d:Nat) (o ks o1:List Int) (out:List cZ) (r:Option (dg×UW)):Prop:=
 ∃ e c9' out' nm',r=some ((e,()),KN g rt c2 c3 c4 c5 c6 c9' out' u nm')/\(o.length:Int)<=c9'/\c9'<=20001/\s7 c9' out'<=s7 o.length out+1/\
  (e=0->c9'=o1.length/\c9'<=20000/\nm'=sE u o1/\∃ w,out'=out++w/\sT c5 key false false d 1 w/\bA qv g u o ks w o1)
def LU (Fr:U3) (n0:Nat) (deep:Int) (d:Nat):Prop:=∀ (n:Nat) (i:Int) (key:Bool) (o o1:List Int) (out:List cZ),n0<=n->0<=i->i<(g.length:Int)->o.length<=20000->s7 o.length out<=1000000000->VU g u o [i] o1->
 iw g rt c2 c3 c4 c5 c6 u key d o [i] o1 out (Fr n i key deep g rt c2 c3 c4 c5 c6 o.length out u (sE u o))
theorem EV (Fr:U3) (n0 d:Nat) (deep:Int) (hdp:0<=deep/\deep<=200) (hF:LU g rt c2 c3 c4 c5 c6 u Fr n0 (deep+1) d) (key:Bool) (t11 a0:Int) (a1 a2:List UInt8) (ks:List Int) (a4:Bool) (hks:∀ c∈ks,0<=c/\c<(g.length:Int)) (hkl:ks.length<=400):
  ∀ (r n t:Nat) (o o2:List Int) (out:List cZ),t+r=ks.length->n0+r+1<=n->o.length<=20000->s7 o.length out+r<=1000000000->VU g u o (ks.drop t) o2->
  ∃ res,mY Fr n key deep t11 ks (len ks) (t:Int) g rt c2 c3 c4 c5 c6 o.length out u (sE u o) a0 a1 a2 ks a4=some res/\
   (
    (∃ e c9' out' nm',res= .inr ((e,()),((g,(rt,(c2,(c3,(c4,(c5,(c6,((),((),(c9',(out',()))))))))))),(u,(nm',((a0,(a1,(a2,(ks,(a4,()))))),())))))/\e≠0/\(o.length:Int)<=c9'/\c9'<=20001/\s7 c9' out'<=s7 o.length out+r)\/
    (∃ out' w,res= .inl (((),(t11,())),((g,(rt,(c2,(c3,(c4,(c5,(c6,((),((),((o2.length:Int),(out',()))))))))))),(u,(sE u o2,((a0,(a1,(a2,(ks,(a4,()))))),())))))/\out'=out++w/\sT c5 key (a0==3) (decide (t%2=1)) d r w/\bA qv g u o (ks.drop t) w o2/\o.length<=o2.length/\o2.length<=20000/\s7 o2.length out'<=s7 o.length out+r)):=by
 intro r
 induction r with
 |zero=>
  intro n t o o2 out h1 hn h9 hp hv;obtain ⟨n,rfl⟩:=pS n;have hnil:ks.drop t= []:=List.drop_eq_nil_of_le (by omega);rw [hnil] at hv ⊢;cases hv;refine ⟨_,by simp only [mY,aC (show len ks<=(t:Int) by unfold len;omega),zab],.inr ⟨out,[],rfl,by simp,.nil,.nil,zal _,h9,by simp⟩⟩
 |succ r ih=>
  intro n t o o2 out h1 hn h9 hp hv;obtain ⟨n,rfl⟩:=pS n;have hlt:t<ks.length:=by omega
  have e0:(Int.toNat (t:Int))=t:=rfl;have hx:ks[t]? =some ks[t]:=zam hlt;have hc:=hks _ (List.getElem_mem hlt);have hdr:ks.drop t=ks[t]::ks.drop (t+1):=List.drop_eq_getElem_cons hlt;generalize ks[t]=c at hx hc hdr;rw [hdr] at hv ⊢;obtain ⟨o1,hv1,hv2⟩:=hv.cons;have w1:=wS t;have w2:zao (deep+1)=deep+1:=aj (by omega) (by omega);have md:(Int.tmod (t:Int) 2==0)= !decide (t%2=1):=by
   rw [Int.tmod_eq_emod_of_nonneg (by omega),vm,Bool.eq_iff_iff];simp;omega
  have par:(!decide (t%2=1))=decide ((t+1)%2=1):=by
   rw [Bool.eq_iff_iff];simp;omega
  obtain ⟨e,c9',out',nm',hq,g1,g1',g2,g3⟩:=hF (n+1) c (key ||((a0==3) && !decide (t%2=1))) o o1 out (by omega) hc.1 hc.2 h9 (by omega) hv1
  have red:mY Fr (n+1) key deep t11 ks (len ks) (t:Int) g rt c2 c3 c4 c5 c6 o.length out u (sE u o) a0 a1 a2 ks a4=
    (
     bif (e !=0) then some (.inr ((e,()),((g,(rt,(c2,(c3,(c4,(c5,(c6,((),((),(c9',(out',()))))))))))),(u,(nm',((a0,(a1,(a2,(ks,(a4,()))))),()))))))
     else mY Fr n key deep t11 ks (len ks) ((t+1:Nat):Int) g rt c2 c3 c4 c5 c6 c9' out' u nm' a0 a1 a2 ks a4):=by
   conv=>lhs;rw [mY]
   simp only [ao (show (t:Int)<len ks by unfold len;omega),af (show (0:Int)<=(t:Int) by omega),zac,e0,hx,zaa,w1,w2,md];cases key with
   |true=>
    simp only [Bool.true_or] at hq;simp only [zac,hq,zaa]
   |false=>
    simp only [Bool.false_or] at hq;simp only [zab];cases h3:(a0==3) with
    |true=>
     rw [h3] at hq;simp only [Bool.true_and] at hq;simp only [zac,hq,zaa]
    |false=>
     rw [h3] at hq;simp only [Bool.false_and] at hq;simp only [zab,hq,zaa]
  rw [red];by_cases he:e=0
  .have:(e !=0)=false:=by simp [he]
   rw [this,zab];obtain ⟨g4,g5,g6,w,g7,g8,g9⟩:=g3 he;subst g4 g6;obtain ⟨res,hr,hh⟩:=ih n (t+1) o1 o2 out' (by omega) (by omega) (by omega) (by omega) hv2;refine ⟨res,hr,?_⟩;rcases hh with ⟨e,c9'',out'',nm'',q1,q2,q3,q3',q4⟩ |⟨out'',w',q1,q2,q3,q4,q5,q6,q7⟩
   .exact .inl ⟨e,c9'',out'',nm'',q1,q2,by omega,q3',by omega⟩
   .refine .inr ⟨out'',w++w',q1,by rw [q2,g7,List.append_assoc],?_,g9.app q4,by omega,q6,by omega⟩
    rw [show r+1=1+r by omega];refine g8.one.snoc ?_;have:(decide (t%2=1) !=decide (1%2=1))=decide ((t+1)%2=1):=by
     rw [←par];cases decide (t%2=1)<;>rfl
    rw [this];exact q3
  .have:(e !=0)=true:=by simp [he]
   rw [this,zac];exact ⟨_,rfl,.inl ⟨e,c9',out',nm',rfl,he,g1,g1',by omega⟩⟩
end
theorem NC {i:Int} (h0:0<=i) (h1:i<1000000000):FG i=true:=by
 unfold FG;rw [Go.Iv.dn,Go.Iv.dn];simp only [zae,decide_eq_true_eq];omega
section
variable (g:List Dq) (rt:List Int) (c2 c3 c4:Int) (c5 c6:Bool) (u:List co)
theorem Rw (u:List co) (o:List Int) (i:Int) (h:o.length<=20000):Md (zV u o i):=by
 unfold zV;have:=zK u o;split
 .exact .inr ⟨_,by omega,rfl⟩
 .exact .inl rfl
theorem C7 (n:Nat) (i c9:Int) (o:List Int) (out:List cZ) (ho:o.length<=20000) (hi:i∉o):
  tz n i g rt c2 c3 c4 c5 c6 c9 out u (sE u o)=some ((zV u o i,()),KN g rt c2 c3 c4 c5 c6 c9 out u (sE u (o++ [i]))):=by
 have hnl:=Qk u o;have hle:=zK u o;have w:zao (len (sE u o)+1)=(((iP u o).length+1:Nat):Int):=by
  unfold len;rw [hnl,aj]<;>omega
 have hb:FG (((iP u o).length+1:Nat):Int)=true:=NC (by omega) (by omega);have hl:=Pz (k:=(iP u o).length+1) (by omega);have rm:room (List.length ([97]:List UInt8)+List.length (Go.Lib.itoa (((iP u o).length+1:Nat):Int)))=true:=aV (by
  unfold oy at hl;rw [zaf] at hl;omega)
 have hv:([97]:List UInt8)++Go.Lib.itoa (((iP u o).length+1:Nat):Int)=oy ((iP u o).length+1):=rfl;have hus:aD (aW KI u i 0) 2= !BB u i:=by
  unfold BB;rw [fu,Bool.eq_iff_iff];simp
 unfold tz zV;simp only [hus];cases hu:BB u i with
 |false=>
  rw [KD hu];rfl
 |true=>
  simp only [zag,zab,w,hb,rm,zac,hv,P7 hi hu];have e:aW KI (sE u (o++ [i])) i []=oy ((iP u o).length+1):=by
   rw [He (List.mem_append_right _ (List.mem_singleton.2 rfl)) hu,KX hi hu]
  rw [e];rfl
theorem oG (c9:Int) (out:List cZ) (e:cZ):s7 c9 (out++ [e])=s7 c9 out+1:=by
 unfold s7;simp;omega
theorem yW (c9:Int) (out:List cZ):s7 (c9+1) out=s7 c9 out - 402:=by unfold s7;omega
theorem Hh {c9:Int} {out:List cZ} (h:s7 c9 out<=1000001000) (h9:c9<=20001):out.length<=1000001000:=by unfold s7 at h;omega
theorem xR (hg:∀ (j:Nat) x,g[j]? =some x->xf g.length x) (dd:Nat):∀ D:Nat,(dd=0\/∃ d',dd=d'+1/\LU g rt c2 c3 c4 c5 c6 u (jr D) (27200+420*d') (200 - (dd:Int)+1) d')->dd<=200->LU g rt c2 c3 c4 c5 c6 u (jr (D+1)) (27200+420*dd) (200 - (dd:Int)) dd:=by
  intro D hrec hdd n i key o o1 out hn hi0 hi1 h9 hp hV;have hb:Nat.ble 12 n=true:=Nat.ble_eq_true_of_le (by omega);have hol:=Hh (show s7 o.length out<=1000001000 by omega) (by omega);rw [jr,hb,zac];unfold zh;have hh:=Ox u o i;rcases hV.one with ⟨hm,hus,rfl⟩ |⟨hm,hsub⟩
  .-- an alias
   rw [decide_eq_true ⟨hm,hus⟩] at hh;have hkv:=He hm hus;have rm:∀ e:cZ,room ((out.length+List.length (e::([]:List cZ)))*73)=true:=fun e=>aV (by simp;omega)
   simp only [hh,zac,rm,hkv];have hk:(iP u o1).idxOf i+1<=1000000:=by
    have:=List.idxOf_lt_length_of_mem (kA.2 ⟨hm,hus⟩);have:=zK u o1;omega
   refine ⟨0,o1.length,_,sE u o1,rfl,Int.le_refl _,by omega,?_,fun _=>⟨rfl,by omega,rfl,[_],rfl,.leaf (.inl ⟨_,hk,rfl⟩) .nil,.alias hm hus .nil⟩⟩;rw [oG];exact Int.le_refl _
  .rw [decide_eq_false (fun h=>hm h.1)] at hh
   have hlt:i.toNat<g.length:=by omega
   have hx:g[i.toNat]? =some g[i.toNat]:=zam hlt;have ok:=hg _ _ hx;generalize g[i.toNat]=x at hx ok;obtain ⟨k0,tg,s,ks,pl⟩:=x;have hkk:bt g i=ks:=by unfold bt;rw [hx]
   rw [hkk] at hsub;have w9:zao ((o.length:Int)+1)=(o.length:Int)+1:=aj (by omega) (by omega);have otag:=ok.tag;have otl:=ok.tl;have ot0:=ok.t0;have ot1:=ok.t1;have okl:=ok.kl;have okr:=ok.kr;have osc:=ok.sc;have Im:=ok.kd;have otx:=ok.tx;have oev:=ok.ev;simp only at otag otl ot0 ot1 okl okr osc Im otx oev;simp only [hh,zab,af hi0,zac,hx,zaa,w9];have b2:(bif (k0 !=(1:Int)) then some (200 - (dd:Int)==(200:Int)) else some false:Option Bool)=some (decide (k0≠1) &&decide (dd=0)):=by
    have e1:(k0 !=(1:Int))=decide (k0≠1):=S8 _ _;have e2:((200 - (dd:Int))==200)=decide (dd=0):=by rw [vm,decide_eq_decide];omega
    rw [e1,e2];cases decide (k0≠1)<;>rfl
   rw [b2];simp only [zaa];cases hdeep:(decide (k0≠1) &&decide (dd=0)) with
   |true=>
    exact ⟨8,o.length,out,sE u o,rfl,Int.le_refl _,by omega,by omega,fun h=>absurd h (by decide)⟩
   |false=>
    simp only [zab];by_cases hmany:(o.length:Int)+1>20000
    .rw [ao hmany,zac]
     exact ⟨9,(o.length:Int)+1,out,sE u o,rfl,by omega,by omega,by rw [yW];omega,fun h=>absurd h (by decide)⟩
    rw [aC (by omega),zab];have han:=C7 g rt c2 c3 c4 c5 c6 u (n - 12+10) i ((o.length:Int)+1) o out h9 hm;have haok:=Rw u o i h9;have hol1:((o++ [i]).length:Int)=(o.length:Int)+1:=by simp
    rw [han];simp only [zaa];by_cases hk1:k0=1
    .-- a scalar
     subst hk1;obtain ⟨hks,hsl,xs,hxs⟩:=osc rfl;subst hks;cases hsub;have e1:(((1:Int)) !=1)=false:=rfl;simp only [e1,zab];have rm:∀ e:cZ,room ((out.length+List.length (e::([]:List cZ)))*73)=true:=fun e=>aV (by simp;omega)
     obtain ⟨t,st,hsc,htok,hmy,hres⟩:=zj (n - 12) 1 tg s [] pl (c5 ||key) rfl hsl xs hxs otag otl ot0 ot1 (by omega) g rt c2 c3 c4 c5 c6 ((o.length:Int)+1) out u (sE u (o++ [i]));have fin:iw g rt c2 c3 c4 c5 c6 u key dd o [i] (o++ [i]) out (some ((0,()),KN g rt c2 c3 c4 c5 c6 ((o.length:Int)+1) (out++ [(7,(s,(t,(zV u o i,(st,false)))))]) u (sE u (o++ [i])))):=by
      refine ⟨0,(o.length:Int)+1,_,_,rfl,by omega,by omega,by rw [oG,yW];omega,fun _=>⟨hol1.symm,by omega,rfl,[_],rfl,.leaf (.inr ⟨s,t,_,st,xs,rfl,htok,haok,by omega,hxs,?_⟩) .nil,.scalar hm hx hres .nil⟩⟩;simpa using hmy
     cases c5 with
     |true=>
      simp only [Bool.true_or] at hsc;simp only [zac,hsc,zaa,rm];exact fin
     |false=>
      simp only [Bool.false_or] at hsc;simp only [zab,hsc,zaa,rm,zac];exact fin
    .-- a collection
     have e1:(k0 !=(1:Int))=true:=by simp [hk1]
     have hdd0:dd≠0:=by
      intro h0';simp [hk1,h0'] at hdeep
     obtain ⟨d',hd',hF⟩:∃ d',dd=d'+1/\LU g rt c2 c3 c4 c5 c6 u (jr D) (27200+420*d') (200 - (dd:Int)+1) d':=by
      rcases hrec with h |h
      .exact absurd h hdd0
      .exact h
     have hs0:=otx hk1;subst hs0;have hte:=sj (n - 12+9) k0 tg;have hres:qx qv k0 (if tg=G6 k0 then [] else tg) [] false=tg:=uM ot0 ot1 (.inl hk1);generalize hte':(if tg=G6 k0 then [] else tg)=t at hte hres;have tok:B6 t:=by
      rw [←hte'];split
      .exact .inl rfl
      .exact .inr ⟨otag,by omega⟩
     simp only [e1,zac,hte,zaa];have hm':∃ m,(k0==3)=m/\(m=true->ks.length%2=0)/\k0=bif m then 3 else 2:=⟨_,rfl,fun h=>oev (eq_of_beq h),by
      rcases Im with h |h |h
      .exact absurd h hk1
      .subst h;rfl
      .subst h;rfl⟩
     obtain ⟨m,hkm,hev,hkd⟩:=hm'
     have fin:∀ fl:Bool,fl=((c5 ||key) ||decide (ks.length=0))->
       iw g rt c2 c3 c4 c5 c6 u key dd o [i] o1 out
        (lf (jr D) (n - 12+10) key (200 - (dd:Int)) (jB m) k0 tg [] ks pl t (zV u o i) fl g rt c2 c3 c4 c5 c6 ((o.length:Int)+1) out u (sE u (o++ [i]))):=by
      intro fl hfl;unfold lf;have rm:room (((List.length out)+(List.length (((jB m),(([]:List UInt8),(t,(zV u o i,((0:Int),fl)))))::([]:List cZ))))*73)=true:=aV (by simp;omega);rw [rm,zac];have p1:s7 (o++ [i]).length (out++ [((jB m),(([]:List UInt8),(t,(zV u o i,((0:Int),fl)))))])=s7 o.length out - 401:=by rw [hol1,oG,yW];omega
      obtain ⟨res,hres',hh⟩:=EV g rt c2 c3 c4 c5 c6 u (jr D) (27200+420*d') d' (200 - (dd:Int)) ⟨by omega,by omega⟩ hF key (jB m) k0 tg [] ks pl okr okl ks.length (n - 12+10) 0 (o++ [i]) o1 (out++ [((jB m),(([]:List UInt8),(t,(zV u o i,((0:Int),fl)))))]) (by omega) (by omega) (by omega) (by omega) hsub;rw [show ((0:Nat):Int)=0 from rfl,hol1] at hres';refine (congrArg (fun z=>iw g rt c2 c3 c4 c5 c6 u key dd o [i] o1 out (Option.bind z _)) hres').mpr ?_;simp only [zaa];rcases hh with ⟨e,c9',out',nm'',rfl,he,q1,q1',q2⟩ |⟨out',w,rfl,q1,q2,q3,q4,q5,q6⟩
      .exact ⟨e,c9',out',nm'',rfl,by omega,q1',by omega,fun h=>absurd h he⟩
      .have wk:zao (jB m+1)=jB m+1:=by cases m<;>rfl
       have hol':=Hh (c9:=o1.length) (out:=out') (by omega) (by omega);have rm2:∀ e:cZ,room ((out'.length+List.length (e::([]:List cZ)))*73)=true:=fun e=>aV (by simp;omega)
       simp only [wk,rm2,zac];refine ⟨0,o1.length,_,_,rfl,by omega,by omega,by rw [oG];omega,fun _=>⟨rfl,by omega,rfl,((jB m),(([]:List UInt8),(t,(zV u o i,((0:Int),fl)))))::(w++ [eE m]),by rw [q1];simp [eE],?_,?_⟩⟩
       .rw [hd']
        rw [hkm] at q2;refine .jy ⟨t,_,by rw [hfl];simp,tok,haok⟩ hev ?_ .nil;simpa using q2
       .rw [List.drop_zero] at q3
        exact .jy hm (by rw [←hkd];exact hx) (by rw [←hkd];exact hres) q3 .nil
     have z:(len ks==(0:Int))=decide (ks.length=0):=by
      unfold len;rw [vm,decide_eq_decide];omega
     rw [hkm];cases m with
     |true=>
      simp only [zac];cases hc5:c5 with
      |true=>simp only [zac];subst hc5;exact fin true (by simp)
      |false=>
       subst hc5;cases hky:key with
       |true=>simp only [zac,zab];subst hky;exact fin true (by simp)
       |false=>simp only [zab];subst hky;exact fin _ (by rw [z];simp)
     |false=>
      simp only [zab];cases hc5:c5 with
      |true=>simp only [zac];subst hc5;exact fin true (by simp)
      |false=>
       subst hc5;cases hky:key with
       |true=>simp only [zac,zab];subst hky;exact fin true (by simp)
       |false=>simp only [zab];subst hky;exact fin _ (by rw [z];simp)
theorem Ij (hg:∀ (j:Nat) x,g[j]? =some x->xf g.length x):∀ (dd D:Nat),dd<=200->dd<D->LU g rt c2 c3 c4 c5 c6 u (jr D) (27200+420*dd) (200 - (dd:Int)) dd:=by
 intro dd
 induction dd with
 |zero=>
  intro D h1 h2;obtain ⟨D,rfl⟩:=pS D;exact xR g rt c2 c3 c4 c5 c6 u hg 0 D (.inl rfl) h1
 |succ dd ih=>
  intro D h1 h2;obtain ⟨D,rfl⟩:=pS D;refine xR g rt c2 c3 c4 c5 c6 u hg (dd+1) D (.inr ⟨dd,rfl,?_⟩) h1;have e:(200 - ((dd+1:Nat):Int)+1)=200 - (dd:Int):=by omega
  rw [e];exact ih D (by omega) (by omega)
end
def DE (s:List lw):Nat->Nat
 |0=>0
 |j+1=>DE s j+(if aW KI s (j:Int) false then 0 else 1)
theorem Jm (s:List lw) (c:Int):∀ N:Nat,(N:Int)<=c->DE (de KI s c true) N=DE s N:=by
 intro N
 induction N with
 |zero=>intro _;rfl
 |succ N ih=>
  intro h;have hne:¬ ((N:Int)=c):=by omega
  show DE (de KI s c true) N+(if aW KI (de KI s c true) (N:Int) false then 0 else 1)=DE s N+(if aW KI s (N:Int) false then 0 else 1)
  rw [ih (by omega),cH,if_neg hne]
theorem Kv (s:List lw) (c:Int) (hc:aW KI s c false=false) (h0:0<=c):∀ N:Nat,c<(N:Int)->DE (de KI s c true) N+1=DE s N:=by
 intro N
 induction N with
 |zero=>intro h;omega
 |succ N ih=>
  intro h
  show DE (de KI s c true) N+(if aW KI (de KI s c true) (N:Int) false then 0 else 1)+1=DE s N+(if aW KI s (N:Int) false then 0 else 1)
  by_cases hcN:c=(N:Int)
  .subst hcN
   rw [Jm s _ N (Int.le_refl _),cH,if_pos rfl,hc];simp
  .have hne:¬ ((N:Int)=c):=fun e=>hcN e.symm
   rw [cH,if_neg hne];have:=ih (by omega);omega
theorem Sz (s:List lw):∀ N:Nat,DE s N<=N:=by
 intro N
 induction N with
 |zero=>exact zal _
 |succ N ih=>simp only [DE];split<;>omega
theorem LN (c x:Int) (l:List Int):(((c::l).count x:Nat):Int)=(l.count x:Int)+if x=c then 1 else 0:=by
 rw [tM];split<;>simp
theorem NV (c0:List Dq) (c1:List Int) (c2 c3 c4:Int) (c5 c6:Bool) (c9:Int) (c10:List cZ) (m70:List ls) (g:List Dq) (rt ks:List Int) (N:Nat) (hks:∀ c∈ks,0<=c/\c<(N:Int)) (hkl:ks.length<=1000):∀ (r n t:Nat) (w:List Int) (u:List co) (s:List lw),t+r=ks.length->r<n->w.length+DE s N<=100000->(∀ c∈w,0<=c/\c<(N:Int))->(∀ x,0<=aW KI u x 0/\aW KI u x 0+r<=1000000000)->
  ∃ w' u' s',iK n w ks (len ks) (t:Int) c0 c1 c2 c3 c4 c5 c6 c9 c10 u m70 g rt s=some (((),((),((),(w',())))),((c0,(c1,(c2,(c3,(c4,(c5,(c6,((),((),(c9,(c10,()))))))))))),(((),()),(u',(m70,((g,(rt,())),(((),()),(s',()))))))))/\
   w'.length+DE s' N=w.length+DE s N/\(∀ c∈w',0<=c/\c<(N:Int))/\(∀ x,aW KI u' x 0=aW KI u x 0+((ks.drop t).count x:Int))/\(∀ x,aW KI s' x false=true->aW KI s x false=true\/x∈w')/\(∀ x∈ks.drop t,aW KI s' x false=true)/\(∀ x∈w,x∈w')/\∀ x,aW KI s x false=true->aW KI s' x false=true:=by
 intro r
 induction r with
 |zero=>
  intro n t w u s h1 hn hw hc hu;obtain ⟨n,rfl⟩:=pS n;have hnil:ks.drop t= []:=List.drop_eq_nil_of_le (by omega);refine ⟨w,u,s,by simp only [iK,aC (show len ks<=(t:Int) by unfold len;omega),zab],rfl,hc,fun x=>?_,fun x h=> .inl h,fun x h=>?_,fun x h=>h,fun x h=>h⟩
  .rw [hnil];simp
  .rw [hnil] at h;cases h
 |succ r ih=>
  intro n t w u s h1 hn hw hc hu;obtain ⟨n,rfl⟩:=pS n;have hlt:t<ks.length:=by omega
  have e0:(Int.toNat (t:Int))=t:=rfl;have hx:ks[t]? =some ks[t]:=zam hlt;have hk:=hks _ (List.getElem_mem hlt);have hdr:ks.drop t=ks[t]::ks.drop (t+1):=List.drop_eq_getElem_cons hlt;generalize ks[t]=c at hx hk hdr;rw [hdr];have w1:=wS t;have huc:=hu c;have w2:zao (aW KI u c 0+1)=aW KI u c 0+1:=aj (by omega) (by omega);have rm:room ((w.length+List.length (c::([]:List Int)))*9)=true:=aV (by simp;omega);have hu2:∀ x,0<=aW KI (de KI u c (aW KI u c 0+1)) x 0/\aW KI (de KI u c (aW KI u c 0+1)) x 0+r<=1000000000:=fun x=>by
   rw [cH];have:=hu x;split<;>omega
  have hcount:∀ x,aW KI (de KI u c (aW KI u c 0+1)) x 0+((ks.drop (t+1)).count x:Int)=aW KI u x 0+(((c::ks.drop (t+1)).count x:Nat):Int):=fun x=>by
   rw [cH,LN];split
   .rename_i h;subst h;omega
   .omega
  rw [iK];simp only [ao (show (t:Int)<len ks by unfold len;omega),af (show (0:Int)<=(t:Int) by omega),zac,e0,hx,zaa,w1,rm,w2];cases hs:aW KI s c false with
  |true=>
   simp only [zag,zab];obtain ⟨w',u',s',q1,q2,q3,q4,q5,q6,q7,q8⟩:=ih n (t+1) w _ s (by omega) (by omega) hw hc hu2;refine ⟨w',u',s',q1,q2,q3,fun x=>by rw [q4,hcount],q5,fun x hx=>?_,q7,q8⟩;rcases List.mem_cons.1 hx with rfl |hx
   .exact q8 _ hs
   .exact q6 x hx
  |false=>
   simp only [Bool.not_false,zac];have hm:=Kv s c hs hk.1 N hk.2;obtain ⟨w',u',s',q1,q2,q3,q4,q5,q6,q7,q8⟩:=ih n (t+1) (w++ [c]) (de KI u c (aW KI u c 0+1)) (de KI s c true) (by omega) (by omega) (by simp;omega) (fun x hx=>by
    rcases List.mem_append.1 hx with h |h
    .exact hc x h
    .rw [List.mem_singleton.1 h];exact hk) hu2
   have hcw:c∈w':=q7 c (List.mem_append_right _ (List.mem_singleton.2 rfl));refine ⟨w',u',s',q1,by rw [q2];simp;omega,q3,fun x=>by rw [q4,hcount],fun x hx=>?_,fun x hx=>?_,fun x hx=>q7 x (List.mem_append_left _ hx),fun x hx=>q8 x ?_⟩
   .rcases q5 x hx with h |h
    .rw [cH] at h
     split at h
     .rename_i e;subst e;exact .inr hcw
     .exact .inl h
    .exact .inr h
   .rcases List.mem_cons.1 hx with rfl |hx
    .exact q8 _ (by rw [cH,if_pos rfl])
    .exact q6 x hx
   .rw [cH]
    split
    .rfl
    .exact hx
theorem LI (c0:List Dq) (c1:List Int) (c2 c3 c4:Int) (c5 c6:Bool) (c9:Int) (c10:List cZ) (m70:List ls) (g:List Dq) (rt:List Int) (hg:∀ (j:Nat) x,g[j]? =some x->xf g.length x) (f0:Int->Int):∀ (M n:Nat) (w P:List Int) (u:List co) (s:List lw),w.length+DE s g.length<=M->M<=90000->M+1000<n->(∀ c∈w,0<=c/\c<(g.length:Int))->(∀ x,0<=aW KI u x 0/\aW KI u x 0+400*M<=1000000000)->
   (∀ x,aW KI s x false=true->x∈P\/x∈w)->(∀ p∈P,∀ c∈bt g p,aW KI s c false=true)->(∀ x,aW KI u x 0=f0 x+(((P.flatMap (bt g)).count x:Nat):Int))->
  ∃ (u':List co) (s':List lw) (P':List Int),iM n w c0 c1 c2 c3 c4 c5 c6 c9 c10 u m70 g rt s=some ((),((c0,(c1,(c2,(c3,(c4,(c5,(c6,((),((),(c9,(c10,()))))))))))),(((),()),(u',(m70,((g,(rt,())),(((),()),(s',()))))))))/\
   (∀ x∈w,x∈P')/\(∀ x∈P,x∈P')/\(∀ p∈P',∀ c∈bt g p,c∈P')/\∀ x,aW KI u' x 0=f0 x+(((P'.flatMap (bt g)).count x:Nat):Int):=by
 intro M
 have done:∀ (n:Nat) (P:List Int) (u:List co) (s:List lw),(∀ x,aW KI s x false=true->x∈P\/x∈([]:List Int))->(∀ p∈P,∀ c∈bt g p,aW KI s c false=true)->(∀ x,aW KI u x 0=f0 x+(((P.flatMap (bt g)).count x:Nat):Int))->
   ∃ (u':List co) (s':List lw) (P':List Int),iM (n+1) [] c0 c1 c2 c3 c4 c5 c6 c9 c10 u m70 g rt s=some ((),((c0,(c1,(c2,(c3,(c4,(c5,(c6,((),((),(c9,(c10,()))))))))))),(((),()),(u',(m70,((g,(rt,())),(((),()),(s',()))))))))/\
   (∀ x∈([]:List Int),x∈P')/\(∀ x∈P,x∈P')/\(∀ p∈P',∀ c∈bt g p,c∈P')/\∀ x,aW KI u' x 0=f0 x+(((P'.flatMap (bt g)).count x:Nat):Int):=fun n P u s i1 i2 i4=>
  ⟨u,s,P,rfl,fun x h=>(by cases h),fun x h=>h,fun p hp c hc=>(i1 c (i2 p hp c hc)).resolve_right (fun h=>by cases h),i4⟩
 induction M with
 |zero=>
  intro n w P u s hw hM hn hc hu i1 i2 i4;obtain ⟨n,rfl⟩:=pS n;have:w= []:=List.length_eq_zero_iff.1 (by omega);subst this;exact done n P u s i1 i2 i4
 |succ M ih=>
  intro n w P u s hw hM hn hc hu i1 i2 i4;obtain ⟨n,rfl⟩:=pS n;rcases List.eq_nil_or_concat w with rfl |⟨w0,c,rfl⟩
  .exact done n P u s i1 i2 i4
  .simp only [List.concat_eq_append] at hw hc i1 ⊢
   simp only [zaf,List.length_singleton] at hw;have hcc:=hc c (by simp);have w1:zao ((w0.length:Int)+1 - 1)=(w0.length:Int):=by rw [Int.add_sub_cancel];exact aj (by omega) (by omega)
   have e1:aD 0 ((w0.length:Int)+1)=true:=ao (by omega);have e2:ak 0 (w0.length:Int)=true:=af (by omega);have e3:aD (w0.length:Int) ((w0.length:Int)+1)=true:=ao (by omega);have e5:ak (w0.length:Int) ((w0.length:Int)+1)=true:=af (by omega);have e6:ak 0 c=true:=af hcc.1;have e7:(Int.toNat (w0.length:Int))=w0.length:=rfl;have hlt:c.toNat<g.length:=by omega
   have hx:g[c.toNat]? =some g[c.toNat]:=zam hlt;have ok:=hg _ _ hx;generalize g[c.toNat]=x at hx ok;have hkk:bt g c=x.2.2.2.1:=by unfold bt;rw [hx]
   have okl:=ok.kl;obtain ⟨w',u',s',q1,q2,q3,q4,q5,q6,q7,q8⟩:=NV c0 c1 c2 c3 c4 c5 c6 c9 c10 m70 g rt x.2.2.2.1 g.length ok.kr (by omega) x.2.2.2.1.length (n+1) 0 w0 u s (by omega) (by omega) (by omega) (fun y hy=>hc y (by simp [hy])) (fun y=>by have:=hu y;omega);rw [show ((0:Nat):Int)=0 from rfl] at q1;rw [List.drop_zero] at q4 q6;obtain ⟨u2,s2,P',q9,r1,r2,r3,r4⟩:=ih n w' (P++ [c]) u' s' (by omega) (by omega) (by omega) q3 (fun y=>by
     have:=hu y;have h4:=q4 y;have hcl:x.2.2.2.1.count y<=x.2.2.2.1.length:=List.count_le_length;omega) (fun y hy=>by
     rcases q5 y hy with h |h
     .rcases i1 y h with h |h
      .exact .inl (List.mem_append_left _ h)
      .rcases List.mem_append.1 h with h |h
       .exact .inr (q7 y h)
       .exact .inl (List.mem_append_right _ h)
     .exact .inr h) (fun p hp y hy=>by
     rcases List.mem_append.1 hp with h |h
     .exact q8 y (i2 p h y hy)
     .rw [List.mem_singleton.1 h,hkk] at hy
      exact q6 y hy) (fun y=>by
     rw [q4,i4,List.flatMap_append,List.count_append];simp only [List.flatMap_cons,List.flatMap_nil,List.append_nil,hkk];omega)
   refine ⟨u2,s2,P',?_,fun y hy=>?_,fun y hy=>r2 y (List.mem_append_left _ hy),r3,r4⟩
   .rw [iM]
    simp only [gj,w1,e1,e2,e3,e5,e6,e7,zac,zai,jV,mN,hx,zaa];refine (congrArg (fun z=>Option.bind z _) q1).trans ?_;exact q9
   .rcases List.mem_append.1 hy with h |h
    .exact r1 y (q7 y h)
    .exact r2 y (List.mem_append_right _ h)
theorem KL {N:Nat} {x:dy} (h:iN N x=true) (hb:NB x):xf N x:=by
 unfold iN mV at h;simp only [zae] at h;obtain ⟨⟨h1,h2,h3,h4⟩,h5⟩:=h;obtain ⟨b1,b2,b3⟩:=hb;have htl:x.2.1.length<=1000:=by
  rw [Bool.not_eq_true',fu,decide_eq_false_iff_not] at h1;unfold len at h1;omega
 have hkd:x.1=1\/x.1=2\/x.1=3:=by
  unfold ss at h4;by_cases k1:x.1=1
  .exact .inl k1
  by_cases k2:x.1=2
  .exact .inr (.inl k2)
  by_cases k3:x.1=3
  .exact .inr (.inr k3)
  have e1:(x.1==(1:Int))=false:=by simp [k1]
  have e2:(x.1==(2:Int))=false:=by simp [k2]
  have e3:(x.1==(3:Int))=false:=by simp [k3]
  rw [e1,e2,e3] at h4;cases h4
 have hval:eG x.2.1=true:=by rw [←C6];exact h3
 refine ⟨hval,htl,fun e=>?_,fun e=>?_,b3,fun c hc=>?_,fun k1=>?_,hkd,fun k1=>?_,fun k3=>?_⟩
 .rw [e] at hval;exact absurd hval (by decide)
 .rw [e] at h2;cases h2
 .have:=List.all_eq_true.1 h5 c hc
  unfold Dn at this;exact of_decide_eq_true this
 .unfold ss at h4
  have e1:(x.1==(1:Int))=true:=by simp [k1]
  rw [e1] at h4;simp only [zac,zae] at h4;have ht:=h4.2;unfold uo at ht;simp only [zae] at ht;have hk0:=eq_of_beq h4.1;unfold len at hk0;refine ⟨List.length_eq_zero_iff.1 (by omega),b2,?_⟩;exact Option.isSome_iff_exists.1 ht.2
 .unfold ss at h4
  have e1:(x.1==(1:Int))=false:=by simp [k1]
  rw [e1,zab] at h4;rcases hkd with h |h |h
  .exact absurd h k1
  .have e2:(x.1==(2:Int))=true:=by simp [h]
   rw [e2,zac,zae] at h4;exact eq_of_beq h4.1
  .have e2:(x.1==(2:Int))=false:=by simp [h]
   have e3:(x.1==(3:Int))=true:=by simp [h]
   rw [e2,e3,zab,zac,zae] at h4;exact eq_of_beq h4.1
 .unfold ss at h4
  have e1:(x.1==(1:Int))=false:=by simp [k3]
  have e2:(x.1==(2:Int))=false:=by simp [k3]
  have e3:(x.1==(3:Int))=true:=by simp [k3]
  rw [e1,e2,e3] at h4;simp only [zac,zab,zae] at h4;have:=eq_of_beq h4.2.2;unfold len at this;rw [Int.tmod_eq_emod_of_nonneg (by omega)] at this;omega
structure Ag (g:List Dq) (c:Int) (F:Bool) (u:List co) (o:List Int) (w:List cZ):Prop where
 run:sT F false false false 200 1 w
 enc:bA qv g u [] [c] w o
 UF:mw (bt g) [] [c] o
 n:o.length<=20000
theorem IX (g:List Dq) (c c2 c3 c4:Int) (c5 c6:Bool) (hg:∀ (j:Nat) x,g[j]? =some x->xf g.length x) (hgl:g.length<=60) (hk:0<=c/\c<(g.length:Int)) (n:Nat) (hn:130000<=n):
  ∃ res,wA (n+1) [c] (len [c]) 0 c2 c3 c4 c5 c6 g [c] c2 c3 c4 c5 c6 0 []=some res/\
   (
    (∃ e st,res= .inr (((),(e,())),st)/\e≠0)\/
    (∃ c9' u o w,res= .inl (((),()),((c2,(c3,(c4,(c5,(c6,()))))),((g,([c],(c2,(c3,(c4,(c5,(c6,((),((),(c9',(iQ c6::(w++ [dG]),()))))))))))),())))/\Ag g c c5 u o w/\w.length<=9000000)):=by
 have hu:=Sz (de KI [] c true) g.length;obtain ⟨u',s',P',hK,k1,_,k3,k4⟩:=LI g [c] c2 c3 c4 c5 c6 0 [] [] g [c] hg (fun x=>if x=c then 1 else 0) (g.length+1) (n+1) [c] [] (de KI [] c 1) (de KI [] c true) (by simp;omega) (by omega) (by omega) (fun y hy=>by rw [List.mem_singleton.1 hy];exact hk) (fun x=>by
   rw [cH];split
   .omega
   .rw [qS];omega) (fun x hx=>by
   rw [cH] at hx;split at hx
   .rename_i e;exact .inr (List.mem_singleton.2 e)
   .rw [qS] at hx;cases hx) (fun p hp=>by cases hp) (fun x=>by
   rw [cH];split
   .rfl
   .rw [qS];rfl)
 have hkr:∀ p:Int,0<=p/\p<(g.length:Int)->∀ y∈bt g p,0<=y/\y<(g.length:Int):=fun p hp y hy=>by
  have hlt:p.toNat<g.length:=by omega
  have hx:g[p.toNat]? =some g[p.toNat]:=zam hlt;unfold bt at hy;rw [hx] at hy;exact (hg _ _ hx).kr y hy
 obtain ⟨o,hv⟩:=mw.Tp g.length hkr (left [] g.length) [c] [] (zal _) (fun k hk'=>by rw [List.mem_singleton.1 hk'];exact hk);have hcP:c∈P':=k1 c (List.mem_singleton.2 rfl);have hsub:∀ x∈o,x∈P':=hv.UL (P:=fun x=>x∈P') k3 (fun p hp=>by cases hp) (fun k hk'=>by rw [List.mem_singleton.1 hk'];exact hcP);have hnd:o.Nodup:=hv.nodup List.nodup_nil;have hvu:VU g u' [] [c] o:=hv.Ro o (by simp) (fun _=>0) (fun x hx=>by cases hx) _ (fun x hx=>by
  have hc:=Iq (K:=bt g) hnd hsub x;have h4:=k4 x;have h5:=tM c x [];rw [List.count_nil] at h5;unfold BB;refine decide_eq_true ?_;rw [h4];split at h5<;>rename_i e
  .rw [if_pos e];omega
  .rw [if_neg e];omega)
 have rm:∀ e:cZ,room ((([]:List cZ).length+List.length (e::([]:List cZ)))*73)=true:=fun e=>aV (by simp)
 have hp0:s7 0 [iQ c6]=8040403:=by unfold s7;simp
 have hP:=Ij g [c] c2 c3 c4 c5 c6 u' hg 200 (n+2) (by omega) (by omega) (n+2) c false [] o [iQ c6] (by omega) hk.1 hk.2 (by simp) (by show s7 0 _<=_;rw [hp0];omega) hvu;obtain ⟨e,c9',out',nm',p1,p2,p2',p3,p4⟩:=hP;have p3':s7 c9' out'<=8040404:=by have:s7 ((([]:List Int).length:Nat):Int) [iQ c6]=8040403:=hp0;omega
 have hol':out'.length<=9000000:=by unfold s7 at p3';omega
 have rm':∀ e:cZ,room ((out'.length+List.length (e::([]:List cZ)))*73)=true:=fun e=>aV (by simp;omega)
 have red:wA (n+1) [c] (len [c]) 0 c2 c3 c4 c5 c6 g [c] c2 c3 c4 c5 c6 0 []=
   (
    bif (e !=0) then some (.inr (((),(e,())),((c2,(c3,(c4,(c5,(c6,()))))),((g,([c],(c2,(c3,(c4,(c5,(c6,((),((),(c9',(out'++ [dG],()))))))))))),()))))
    else wA n [c] (len [c]) 1 c2 c3 c4 c5 c6 g [c] c2 c3 c4 c5 c6 c9' (out'++ [dG])):=by
  conv=>lhs;rw [wA]
  have z:aD (0:Int) 0=false:=rfl;simp only [show aD (0:Int) (len [c])=true from rfl,show ak (0:Int) 0=true from rfl,zac,show ([c]:List Int)[Int.toNat 0]? =some c from rfl,zaa,show zao ((0:Int)+1)=1 from rfl,z];have hp1:Pa (n+2) c false 0 g [c] c2 c3 c4 c5 c6 0 [iQ c6] u' []=some ((e,()),KN g [c] c2 c3 c4 c5 c6 c9' out' u' nm'):=p1;cases c6 with
  |true=>
   simp only [zac];refine (congrArg (fun z=>Option.bind z _) hK).trans ?_;simp only [zaa,rm,zac];refine (congrArg (fun z=>Option.bind z _) hp1).trans ?_;simp only [zaa,rm',zac];rfl
  |false=>
   simp only [zab];refine (congrArg (fun z=>Option.bind z _) hK).trans ?_;simp only [zaa,rm,zac];refine (congrArg (fun z=>Option.bind z _) hp1).trans ?_;simp only [zaa,rm',zac];rfl
 rw [red];by_cases he:e=0
 .have:(e !=0)=false:=by simp [he]
  rw [this,zab];obtain ⟨q1,q2,q3,w,q4,q5,q6⟩:=p4 he;obtain ⟨m,rfl⟩:∃ k,n=k+1:=⟨n - 1,by omega⟩;subst q4;refine ⟨_,by rw [wA];exact rfl,.inr ⟨c9',u',o,w,rfl,⟨q5,q6,hv,by omega⟩,by simp at hol';omega⟩⟩
 .have:(e !=0)=true:=by simp [he]
  rw [this,zac];exact ⟨_,rfl,.inl ⟨e,_,rfl,he⟩⟩
theorem Ct (n:Nat) (g:lO) (hg:GB g) (o:Int×m6) (h1:g.2.length<=1) (hn:140000<=n):
  ∃ ev e,events n g o=some (ev,(e,()))/\(e≠0\/(e=0/\ky g=true/\((g.2= []/\ev= [])\/∃ c u p w,g.2= [c]/\ev=iQ o.2.2.2.2::(w++ [dG])/\Ag g.1 c o.2.2.2.1 u p w/\w.length<=9000000))):=by
 have hr:=OK n g hg (by omega);unfold events;have hr':right n (g.1,g.2)=some (ky g,()):=hr;rw [hr'];simp only [zaa];cases hR:ky g with
 |false=>exact ⟨[],1,rfl,.inl (by decide)⟩
 |true=>
  simp only [zag,zab];unfold ky at hR;simp only [zae] at hR;obtain ⟨h2,h3⟩:=hR;have hnod:∀ (j:Nat) x,g.1[j]? =some x->xf g.1.length x:=fun j x hx=>KL (List.all_eq_true.1 h3 x (List.mem_of_getElem? hx)) (hg.b x (List.mem_of_getElem? hx))
  obtain ⟨g1,g2⟩:=g
  match g2,h1,h2 with
  | [],_,_=>exact ⟨[],0,rfl,.inr ⟨rfl,by first |trivial |rfl,.inl ⟨rfl,rfl⟩⟩⟩
  | [c],_,h2=>
   have hk:0<=c/\c<(g1.length:Int):=by
    have:=List.all_eq_true.1 h2 c (List.mem_singleton.2 rfl);unfold Dn at this;exact of_decide_eq_true this
   obtain ⟨res,q1,q2⟩:=IX g1 c o.1 o.2.1 o.2.2.1 o.2.2.2.1 o.2.2.2.2 hnod hg.n hk (n+4) (by omega);refine (?_:∃ ev e,(Option.bind (wA (n+5) [c] (len [c]) 0 o.1 o.2.1 o.2.2.1 o.2.2.2.1 o.2.2.2.2 g1 [c] o.1 o.2.1 o.2.2.1 o.2.2.2.1 o.2.2.2.2 0 []) _)=some (ev,(e,()))/\_);rw [q1];simp only [zaa];rcases q2 with ⟨e,st,rfl,he⟩ |⟨c9',u,p,w,rfl,d1,d2⟩
   .exact ⟨[],e,rfl,.inl he⟩
   .exact ⟨_,0,rfl,.inr ⟨rfl,by first |trivial |rfl,.inr ⟨c,u,p,w,rfl,rfl,d1,d2⟩⟩⟩
  |_::_::_,h1,_=>simp at h1
theorem tG (n:Nat) (a b:Int) (h0:0<=a) (h1:a<=b):Mx n a b=some (a,()):=by
 unfold Mx;rw [aC h0,aC h1];rfl
theorem pQ {K:Int->List Int} {c:Int} {o:List Int} (h:mw K [] [c] o):dN o c=0/\c∈o:=by
 have hc:c∈o:=h.met c (List.mem_singleton.2 rfl);refine ⟨?_,hc⟩;cases h with
 |old h1 _=>cases h1
 |new h1 h2 h3=>
  cases h3;obtain ⟨r,rfl⟩:=h2.pre;exact mu (o:= []) (r:=r) (by simp)
theorem we (g:List Dq) (c:Int) (F b:Bool) (u:List co) (o:List Int) (w:List cZ) (h:Ag g c F u o w) (hw:w.length<=9000000) (n:Nat) (hn:40000000<=n):
  ∃ E:List aY,E.length=o.length/\(∀ (j:Nat) x e,o[j]? =some x->E[j]? =some e->UZ qv g o x e)/\iH n (iQ b::(w++ [dG])) 200 20000=some ((0,()),((E,([0],())),())):=by
 have hl:(iQ b::(w++ [dG])).length=w.length+2:=by simp
 have hr:mF n (iQ b::(w++ [dG]))=some (true,()):=oB _ (by omega) (DZ.cons (b:=true) (.inl rfl) h.run .nil) n (by omega);obtain ⟨m,hm⟩:∃ m,n+3=(m+1+1+w.length)+1:=⟨n+3 - (w.length+3),by omega⟩;have hrun:=Oz h.run;have s1:=K3 (m+1+1+w.length) (iQ b::(w++ [dG])) [] [] 0 [] [] b (by omega) rfl;obtain ⟨E,e1,e2,_,e4⟩:=Mn (iQ b::(w++ [dG])) (by omega) h.enc o [] (by simp) 1 (m+1+1) [] [] [] [dG] rfl rfl (by simp) (by simp) (by omega) (by simp) (by simp;omega) h.n (by omega);have hx:(iQ b::(w++ [dG]))[1+w.length]? =some dG:=by
  rw [Nat.add_comm,List.getElem?_cons_succ,List.getElem?_append_right (zal _)];simp
 have s2:=step_done (m+1) (iQ b::(w++ [dG])) [] (mI o 0 (iP u o)) (1+w.length) E [0] (by omega) hx;have hv:=(pQ h.UF).1;have s3:ct (m+1) (iQ b::(w++ [dG])) 200 20000 [] (mI o 0 (iP u o)) ((1+w.length+1:Nat):Int) E [0]=some (.inl (((),((),())),(((),((),())),((E,([0],())),())))):=by
  refine Eq.trans (by unfold ct;rfl) ?_;exact cF (aC (by unfold len;omega)) rfl
 have e4':ct (m+1+1+w.length) (iQ b::(w++ [dG])) 200 20000 [] [] ((0+1:Nat):Int) [] []=ct (m+1+1) (iQ b::(w++ [dG])) 200 20000 [] (mI o 0 (iP u o)) ((1+w.length:Nat):Int) E [0]:=by
  have:=e4;simp only [List.map_cons,List.map_nil,hv] at this;exact this
 refine ⟨E,by simpa using e1,fun j x e hj he=>e2 j x e (by simpa using hj) he,?_⟩;unfold iH;refine bS hr (cF rfl (bS (tG _ _ _ (by omega) (by omega)) (bS (tG _ _ _ (by omega) (by omega)) (bS (v:= .inl (((),((),())),(((),((),())),((E,([0],())),())))) ?_ rfl))))
 grind
def mj (e:aY):aY:=(e.1,(qx qv e.1 e.2.1 (if e.1=1 then e.2.2.1 else []) e.2.2.2.2,e.2.2))
theorem th {α:Type} (A B:List α) (e e':α):List.set (A++e::B) A.length e'=A++e'::B:=by
 grind
theorem tv {α:Type} (A B:List α) (e:α):(A++e::B)[A.length]? =some e:=by simp
theorem Ey (n:Nat) (k:Int):GA n k=some (G6 k,()):=by
 unfold GA G6;by_cases h1:k=1
 .subst h1;rfl
 by_cases h2:k=2
 .subst h2;rfl
 by_cases h3:k=3
 .subst h3;rfl
 grind
theorem Ko {R:Type} (r:List aY->Option R) (n:Nat) (A B:List aY) (e:aY) (s:List UInt8) (hs:s.length<=8100) (hn:27000<=n) (h1:A.length<1000000) (he:(if e.1=1 then e.2.2.1 else [])=s):
  T6 r n (A++e::B) (A.length:Int) e s=r (A++mj e::B):=by
 obtain ⟨kd,t,tx,kk,pl⟩:=e;have b2:(ak (0:Int) (A.length:Int) &&aD (A.length:Int) (len (A++(kd,(t,(tx,(kk,pl))))::B)))=true:=by
  rw [ao (by unfold len;simp;omega),af (by omega)];rfl
 have fin:∀ tg,qx qv kd t s pl=tg->SX r (A++(kd,(t,(tx,(kk,pl))))::B) (A.length:Int) (kd,(t,(tx,(kk,pl)))) tg=r (A++mj (kd,(t,(tx,(kk,pl))))::B):=fun tg ht=>by
  unfold SX;refine cT b2 ?_;rw [show (Int.toNat (A.length:Int))=A.length from rfl,th];refine bS (tv A B _) ?_;rw [th];unfold mj;rw [he,ht]
 have hv:(bif (!(t==([]:List UInt8))) then some (!(t==([33]:List UInt8))) else some false)=some (decide (t≠ []/\t≠ [33])):=by
  by_cases q1:t= []
  .subst q1;rfl
  .by_cases q2:t= [33]
   .subst q2;rfl
   grind
 unfold T6;refine bS hv ?_;by_cases ht:t≠ []/\t≠ [33]
 .exact cT (decide_eq_true ht) (fin t (by unfold qx;rw [if_pos ht]))
 .refine cF (decide_eq_false ht) ?_
  by_cases hd:t= [33]\/kd≠1\/pl=false
  .refine bS (v:=true) ?_ (cT rfl (bS (Ey _ _) (fin _ (by unfold qx;rw [if_neg ht,if_pos hd]))))
   grind
  .refine bS (v:=false) ?_ (cF rfl (bS (D6 _ s hs (by omega)) (fin _ (by unfold qx;rw [if_neg ht,if_neg hd]))))
   grind
theorem A9 (g0:List aY) (g1 rs:List Int):∀ (B A:List aY) (n:Nat),A.length+B.length<1000000->(∀ e∈B,e.2.2.1.length<=8100)->27000+B.length+1<=n->
  qg n (A.length:Int) g0 g1 (A++B) rs=some (((),((),())),((g0,(g1,())),((A++B.map mj,(rs,())),()))):=by
 intro B
 induction B with
 |nil=>
  intro A n h1 h2 hn;obtain ⟨n,rfl⟩:=pS n;unfold qg;refine cF (aC (by unfold len;simp)) ?_;simp
 |cons e B ih=>
  intro A n h1 h2 hn;obtain ⟨n,rfl⟩:=pS n;simp only [zad] at h1 hn;have hs:=h2 e (List.mem_cons_self ..);have w:zao ((A.length:Int)+1)=((A.length+1:Nat):Int):=by rw [aj]<;>omega
  have b1:aD (A.length:Int) (len (A++e::B))=true:=ao (by unfold len;simp;omega);have IH:qg n ((A.length+1:Nat):Int) g0 g1 (A++mj e::B) rs=some (((),((),())),((g0,(g1,())),((A++(e::B).map mj,(rs,())),()))):=by
   have:=ih (A++ [mj e]) n (by simp;omega) (fun y hy=>h2 y (zan _ hy)) (by omega);simpa using this
  unfold qg;refine cT b1 (cT (by rw [b1,af (by omega)];rfl) (bS (tv A B _) ?_));rw [w];by_cases hk:e.1=1
  .exact cF (by rw [hk];rfl) ((Ko _ n A B e _ hs (by omega) (by omega) (if_pos hk)).trans IH)
  .exact cT (by simp [hk]) ((Ko _ n A B e _ (by simp) (by omega) (by omega) (if_neg hk)).trans IH)
def Ds (p:aY):aY:=(p.1,(p.2.1,(p.2.2.1,(p.2.2.2.1,false))))
theorem Tz (c1:List Int) (d:List aY) (d1:List Int):∀ (B A:List aY) (n:Nat),A.length+B.length<1000000->B.length+1<=n->
  xj n (A.length:Int) (A++B) c1 d d1=some (((),((),())),((A++B.map Ds,(c1,())),((d,(d1,())),()))):=by
 intro B
 induction B with
 |nil=>
  intro A n h1 hn;obtain ⟨n,rfl⟩:=pS n;unfold xj;refine cF (aC (by unfold len;simp)) ?_;simp
 |cons e B ih=>
  intro A n h1 hn;obtain ⟨n,rfl⟩:=pS n;simp only [zad] at h1 hn;have w:zao ((A.length:Int)+1)=((A.length+1:Nat):Int):=by rw [aj]<;>omega
  have b1:aD (A.length:Int) (len (A++e::B))=true:=ao (by unfold len;simp;omega);unfold xj;refine cT b1 (cT (by rw [b1,af (by omega)];rfl) (bS (v:=e) (tv A B _) ?_));have:=ih (A++ [Ds e]) n (by simp;omega) (by omega);rw [w,show Int.toNat (A.length:Int)=A.length from rfl,th];rw [show (A++ [Ds e]).length=A.length+1 by simp] at this;refine Eq.trans ?_ (this.trans ?_)
  .congr 1
   simp [Ds]
  .simp
theorem SV (c c1:List Int) (d:List aY):∀ (B A:List aY) (n:Nat),A.length+B.length<1000000->B.length+1<=n->
  qJ n (A.length:Int) d c (A++B) c1=some (((),((),())),((d,(c,())),((A++B.map Ds,(c1,())),()))):=by
 intro B
 induction B with
 |nil=>
  intro A n h1 hn;obtain ⟨n,rfl⟩:=pS n;unfold qJ;refine cF (aC (by unfold len;simp)) ?_;simp
 |cons e B ih=>
  intro A n h1 hn;obtain ⟨n,rfl⟩:=pS n;simp only [zad] at h1 hn;have w:zao ((A.length:Int)+1)=((A.length+1:Nat):Int):=by rw [aj]<;>omega
  have b1:aD (A.length:Int) (len (A++e::B))=true:=ao (by unfold len;simp;omega);unfold qJ;refine cT b1 (cT (by rw [b1,af (by omega)];rfl) (bS (v:=e) (tv A B _) ?_));have:=ih (A++ [Ds e]) n (by simp;omega) (by omega);rw [w,show Int.toNat (A.length:Int)=A.length from rfl,th];rw [show (A++ [Ds e]).length=A.length+1 by simp] at this;refine Eq.trans ?_ (this.trans ?_)
  .congr 1
   simp [Ds]
  .simp
theorem J7 (a:List Int) (hl:a.length<1000000):∀ (r:List Int) (i n:Nat),a.drop i=r->i<=a.length->r.length+1<=n->xW n a a (i:Int)=some (.inl ((),())):=by
 intro r
 induction r with
 |nil=>
  intro i n hd hi hf;obtain ⟨n,rfl⟩:=pS n;have hlen:a.length<=i:=ox hd;unfold xW;exact cF (aC (by unfold len;omega)) rfl
 |cons x r ih=>
  intro i n hd hi hf;obtain ⟨n,rfl⟩:=pS n;have hlen:a.length=i+(r.length+1):=tC hd;have hx:a[i]? =some x:=sv hd;have hd2:a.drop (i+1)=r:=sy hd;have w:=wS i;unfold xW;refine cT (ao (by unfold len;omega)) (cT (af (by omega)) (bS hx (cT (af (by omega)) (bS hx (cF (by simp) ?_)))));rw [w];exact ih (i+1) n hd2 (by omega) (by simp at hf;omega)
theorem xE (n:Nat) (a:List Int) (hl:a.length<=100000) (hn:200000<=n):jN n a a=some (true,()):=by
 unfold jN;exact cF (by simp) (bS (J7 a (by omega) a 0 (n+1) rfl (by omega) (by omega)) rfl)
theorem DF (a:List aY) (b:List Int) (hl:a.length<100000) (hk:∀ x∈a,x.2.2.2.1.length<=100000):∀ (r:List aY) (i n:Nat),a.drop i=r->i<=a.length->r.length+200001<=n->xF n (i:Int) a b a b=some (.inl ((),((a,(b,())),((a,(b,())),())))):=by
 intro r
 induction r with
 |nil=>
  intro i n hd hi hf;obtain ⟨n,rfl⟩:=pS n;have hlen:a.length<=i:=ox hd;unfold xF;exact cF (aC (by unfold len;omega)) rfl
 |cons x r ih=>
  intro i n hd hi hf;obtain ⟨n,rfl⟩:=pS n;have hlen:a.length=i+(r.length+1):=tC hd;have hx:a[i]? =some x:=sv hd;have hd2:a.drop (i+1)=r:=sy hd;have w:=wS i;simp only [zad] at hf;unfold xF;refine cT (ao (by unfold len;omega)) (cT (af (by omega)) (bS hx (cT (af (by omega)) (bS hx (cF (by simp) (cF (by simp) (cF (by simp) (cF (by simp) (bS (xE (n+1) _ (hk x (List.mem_of_getElem? hx)) (by omega)) (cF rfl ?_))))))))));rw [w];exact ih (i+1) n hd2 (by omega) (by omega)
theorem Fv (n:Nat) (a:List aY) (b:List Int) (hl:a.length<100000) (hb:b.length<=100000) (hk:∀ x∈a,x.2.2.2.1.length<=100000) (hn:400000<=n):kh n (a,b) (a,b)=some (true,()):=by
 unfold kh;exact cF (by simp) (bS (xE n b hb (by omega)) (cF rfl (bS (DF a b hl hk a 0 n rfl (by omega) (by omega)) rfl)))
theorem u9 (n:Nat) (g h:List aY) (rg rh:List Int) (a b:List aY) (r:List Int) (h1:∀ n,20000<=n->fh n (g,rg)=some (true,())) (h2:∀ n,20000<=n->fh n (h,rh)=some (true,())) (f1:qc n (g,rg)=some ((),((a,(r,())),()))) (f2:qc n (h,rh)=some ((),((b,(r,())),()))) (hab:a.map Ds=b.map Ds) (hl:a.length<=60) (hr:r.length<=20) (hk:∀ x∈a,x.2.2.2.1.length<=400) (hn:500000<=n):AN n (g,rg) (h,rh)=some (true,()):=by
 have hlb:b.length=a.length:=by have:=congrArg List.length hab;simpa using this.symm
 have q1:=Tz r b r a [] (n+8) (by simp;omega) (by omega);have q2:=SV r r (a.map Ds) b [] (n+8) (by simp;omega) (by omega);have q3:=Fv (n+4) (a.map Ds) r (by simp;omega) (by omega) (fun x hx=>by
  obtain ⟨y,hy,rfl⟩:=List.mem_map.1 hx;have:=hk y hy
  show y.2.2.2.1.length<=100000
  omega) (by omega)
 unfold AN;refine bS (h1 (n+1) (by omega)) (cF rfl (bS (h2 (n+1) (by omega)) (cF rfl (bS f1 (bS f2 (bS q1 (bS q2 (bS (v:=(true,())) ?_ rfl))))))));rw [←hab];exact q3
theorem FC (m:Nat):alive (m+3000)=some (true,()):=by kernel_rfl
theorem Hm {K:Int->List Int} {o P:List Int} (h:o.Nodup) (hs:∀ x∈o,x∈P):(o.flatMap K).length<=(P.flatMap K).length:=by
 induction o generalizing P with
 |nil=>simp
 |cons k o ih=>
  rw [List.nodup_cons] at h;have hk:k∈P:=hs k (List.mem_cons_self ..);obtain ⟨a,b,rfl⟩:=List.append_of_mem hk;have:=ih (P:=a++b) h.2 fun y hy=>by
   rcases List.mem_append.1 (hs y (zan _ hy)) with h2 |h2
   .exact List.mem_append_left _ h2
   .rcases List.mem_cons.1 h2 with rfl |h2
    .exact absurd hy h.1
    .exact List.mem_append_right _ h2
  grind
theorem GJ (o:List Int):(o.flatMap fun _=> [(0:Int)]).length=o.length:=by
 induction o with
 |nil=>rfl
 |cons x o ih=>grind
theorem yl (g:List aY):nE g=(g.flatMap fun x=>x.2.2.2.1).length:=by
 induction g with
 |nil=>rfl
 |cons x g ih=>simp only [nE,List.flatMap_cons,zaf,ih]
theorem KO (g:List aY):((fx g.length).flatMap (bt g))=g.flatMap fun x=>x.2.2.2.1:=by
 have:(fx g.length).map (bt g)=g.map fun x=>x.2.2.2.1:=by
  apply List.ext_getElem?;intro j;rw [List.getElem?_map,List.getElem?_map];unfold fx;rw [List.getElem?_map];by_cases hj:j<g.length
  .rw [List.getElem?_range hj]
   have hx:g[j]? =some g[j]:=zam hj;simp only [Option.map_some];unfold bt;rw [show (Int.ofNat j).toNat=j from rfl,hx];rfl
  .rw [List.getElem?_eq_none (by simp;omega),List.getElem?_eq_none (by omega)]
   rfl
 grind
theorem FA {kd:Int} {tg s:List UInt8} {kk kk':List Int} {p b:Bool} (h:mV (kd,(tg,(s,(kk,p))))=true) (hl:kk'.length=kk.length) (hb:kd≠1->b=false):mV (kd,(tg,(s,(kk',b))))=true:=by
 unfold mV ss at h ⊢;have e:len kk'=len kk:=by unfold len;rw [hl]
 simp only [zae,e] at h ⊢;obtain ⟨h1,h2,h3,h4⟩:=h;refine ⟨h1,h2,h3,?_⟩;cases k1:(kd==(1:Int)) with
 |true=>grind
 |false=>
  have hb:=hb (fun e=>by grind);rw [k1,zab] at h4;rw [zab,hb];cases k2:(kd==(2:Int)) with
  |true=>
   grind
  |false=>
   grind
theorem tY (g:List aY) (hR:∀ n,20000<=n->fh n (g,[])=some (true,())) (hgl:g.length<=60) (n:Nat) (hn:100000<=n):
  qc n (g,[])=some ((),(([],([],())),())):=by
 have hlen:len g=(g.length:Int):=rfl;unfold qc;refine bS (hR n (by omega)) (cF rfl (cT (by simp only [hlen];rw [af (by omega),af (by omega)];rfl) (cT (by simp only [hlen];rw [af (by omega),af (by omega)];rfl) (cF rfl ?_))));have q1:mD (n+7) (List.replicate (Int.toNat (len g)) 0) 0 g []=some (((),((),((),(List.replicate (Int.toNat (len g)) 0,())))),((g,([],())),(((),((),())),(((),((),())),())))):=by
  unfold mD;exact cF rfl rfl
 rfl
theorem Ni (n:Nat) (hn:100<=n):iH n [] 200 20000=some ((0,()),(([],([],())),())):=by
 have hr:mF n []=some (true,()):=oB [] (by simp) (F:=false) (b:=true) .nil n (by simp;omega);unfold iH;refine bS hr (cF rfl (bS (tG _ _ _ (by omega) (by omega)) (bS (tG _ _ _ (by omega) (by omega)) (bS (v:= .inl (((),((),())),(((),((),())),(([],([],())),())))) ?_ rfl))));rfl
theorem Mm (n:Nat) (hn:40000000<=n) (g:List Dq) (c:Int) (F b:Bool) (u:List co) (o:List Int) (w:List cZ) (hG:GB (g,[c])) (hR:ky (g,[c])=true) (h:Ag g c F u o w) (hw:w.length<=9000000):
  ∃ E:List aY,iH (n+5) (iQ b::(w++ [dG])) 200 20000=some ((0,()),((E,([0],())),()))/\qg (n+4) 0 g [c] E [0]=some (((),((),())),((g,([c],())),((E.map mj,([0],())),())))/\AN (n+1) (g,[c]) (E.map mj,[0])=some (true,()):=by
 obtain ⟨E,e1,e2,e3⟩:=we g c F b u o w h hw (n+5) (by omega);have hgn:g.length<=60:=hG.n;have hkg:nE g<=400:=hG.k;have hNB:∀ x∈g,NB x:=hG.b;unfold ky at hR;rw [zae] at hR;have hnode:∀ x∈g,iN g.length x=true:=fun x hx=>List.all_eq_true.1 hR.2 x hx
 have hrt:∀ y∈ [c],Dn g.length y=true:=fun y hy=>List.all_eq_true.1 hR.1 y hy
 have hc:0<=c/\c<(g.length:Int):=of_decide_eq_true (hrt c (List.mem_singleton.2 rfl));have hkid:∀ x∈g,∀ y∈x.2.2.2.1,0<=y/\y<(g.length:Int):=fun x hx y hy=>by
  have:=hnode x hx;unfold iN at this;rw [zae] at this;exact of_decide_eq_true (List.all_eq_true.1 this.2 y hy)
 have hK:∀ p:Int,0<=p/\p<(g.length:Int)->∀ y∈bt g p,0<=y/\y<(g.length:Int):=fun p hp y hy=>by
  have hlt:p.toNat<g.length:=by omega
  have hx:g[p.toNat]? =some g[p.toNat]:=zam hlt;unfold bt at hy;rw [hx] at hy;exact hkid _ (List.getElem_mem hlt) y hy
 have hv:=h.UF;have hnd:o.Nodup:=hv.nodup List.nodup_nil;have hr:∀ x∈o,0<=x/\x<(g.length:Int):=hv.UL hK (fun p hp=>by cases hp) (fun k hk=>by rw [List.mem_singleton.1 hk];exact hc);have hcl:∀ p∈o,∀ y∈bt g p,y∈o:=fun p hp=>(hv.closed p hp).resolve_left (by simp)
 have hsub:∀ x∈o,x∈fx g.length:=fun x hx=>uQ.2 (hr x hx)
 have hrl:(fx g.length).length=g.length:=by simp [fx]
 have ho:o.length<=60:=by
  have:=Hm (K:=fun _=> [(0:Int)]) hnd hsub;rw [GJ,GJ,hrl] at this;omega
 have hks:(o.flatMap (bt g)).length<=400:=by
  have:=Hm (K:=bt g) hnd hsub;rw [KO,←yl] at this;omega
 have nd:∀ (j:Nat) x e,o[j]? =some x->E[j]? =some e->∃ kd tg s kk plx bb,g[x.toNat]? =some (kd,(tg,(s,(kk,plx))))/\mj e=(kd,(tg,(s,(kk.map (dN o),bb))))/\(kd≠1->bb=false)/\e.2.2.1=s:=fun j x e hj he=>by
  obtain ⟨kd,tg,s,kk,plx,t,st,n1,n2,n3,n4⟩:=e2 j x e hj he;refine ⟨kd,tg,s,kk,plx,st==1,n1,?_,n4,by rw [n2]⟩;rw [n2];unfold mj;simp only;rw [n3]
 have hel:(E.map mj).length=o.length:=by rw [List.length_map,e1]
 have getE:∀ (j:Nat) (y:aY),(E.map mj)[j]? =some y->∃ x kd tg s kk plx bb,o[j]? =some x/\x∈o/\g[x.toNat]? =some (kd,(tg,(s,(kk,plx))))/\y=(kd,(tg,(s,(kk.map (dN o),bb))))/\(kd≠1->bb=false):=fun j y hy=>by
  rw [List.getElem?_map] at hy;cases he:E[j]? with
  |none=>rw [he] at hy;cases hy
  |some e=>
   rw [he] at hy;simp only [Option.map_some,Option.some.injEq] at hy;have hlt:j<o.length:=by have:=(List.getElem?_eq_some_iff.1 he).1;omega
   have hx:o[j]? =some o[j]:=zam hlt;obtain ⟨kd,tg,s,kk,plx,bb,n1,n2,n3,_⟩:=nd j _ e hx he;exact ⟨_,kd,tg,s,kk,plx,bb,hx,List.getElem_mem hlt,n1,by rw [←hy,n2],n3⟩
 have htx:∀ e∈E,e.2.2.1.length<=8100:=fun e he=>by
  obtain ⟨j,hj⟩:=List.mem_iff_getElem?.1 he;have hlt:j<o.length:=by have:=(List.getElem?_eq_some_iff.1 hj).1;omega
  obtain ⟨kd,tg,s,kk,plx,bb,n1,_,_,n4⟩:=nd j _ e (zam hlt) hj;rw [n4];exact (hNB _ (List.mem_of_getElem? n1)).2.1
 have kE:bt (E.map mj)=KC (bt g) o:=by
  funext j;unfold bt KC;cases hy:(E.map mj)[j.toNat]? with
  |none=>
   have:o[j.toNat]? =none:=by
    rw [List.getElem?_eq_none_iff] at hy ⊢;omega
   rw [this]
  |some y=>
   obtain ⟨x,kd,tg,s,kk,plx,bb,h1,_,h3,h4,_⟩:=getE _ y hy;rw [h1,h4];simp only;rw [h3]
 have hvE:mw (bt (E.map mj)) [] [0] (fx o.length):=by
  have:=hv.place [] o (by simp);rw [←kE] at this;simpa [fx,(pQ hv).1] using this
 have hNBE:∀ y∈E.map mj,NB y/\iN (E.map mj).length y=true/\(∀ z∈y.2.2.2.1,0<=z/\z<((E.map mj).length:Int)):=fun y hy=>by
  obtain ⟨j,hj⟩:=List.mem_iff_getElem?.1 hy;obtain ⟨x,kd,tg,s,kk,plx,bb,h1,h2,h3,h4,h5⟩:=getE j y hj;have hm:=List.mem_of_getElem? h3;have b:=hNB _ hm;have q:=hnode _ hm;unfold iN at q;rw [zae] at q;have hz:∀ z∈kk.map (dN o),0<=z/\z<((E.map mj).length:Int):=fun z hz=>by
   obtain ⟨v,hv1,rfl⟩:=List.mem_map.1 hz;rw [hel];exact zG (hcl x h2 v (by unfold bt;rw [h3];exact hv1))
  subst h4;refine ⟨⟨b.1,b.2.1,by simp only [List.length_map];exact b.2.2⟩,?_,hz⟩;unfold iN;rw [zae];exact ⟨FA q.1 (by simp) h5,List.all_eq_true.2 fun z h=>decide_eq_true (hz z h)⟩
 have hksE:nE (E.map mj)<=400:=by
  rw [yl];have:(E.map mj).map (fun y=>y.2.2.2.1.length)=o.map fun x=>(bt g x).length:=by
   apply List.ext_getElem?;intro j;rw [List.getElem?_map (l:=E.map mj),List.getElem?_map (l:=o)];cases hy:(E.map mj)[j]? with
   |none=>
    have:o[j]? =none:=by
     rw [List.getElem?_eq_none_iff] at hy ⊢;omega
    rw [this];rfl
   |some y=>
    obtain ⟨x,kd,tg,s,kk,plx,bb,h1,_,h3,h4,_⟩:=getE _ y hy;rw [h1,h4];simp only [Option.map_some,List.length_map];unfold bt;rw [h3]
  rw [List.length_flatMap,this,←List.length_flatMap];exact hks
 have R1:∀ n,20000<=n->fh n (g,[c])=some (true,()):=fun n hn=>mE n g [c] hgn (by simp) (by omega) hNB hnode hrt hn
 have R2:∀ n,20000<=n->fh n (E.map mj,[0])=some (true,()):=fun n hn=>mE n (E.map mj) [0] (by omega) (by simp) (by omega) (fun y hy=>(hNBE y hy).1) (fun y hy=>(hNBE y hy).2.1) (fun y hy=>by
  rw [List.mem_singleton.1 hy];have:0<o.length:=List.length_pos_of_mem (pQ hv).2;exact decide_eq_true ⟨Int.le_refl _,by omega⟩) hn
 have hop:0<o.length:=List.length_pos_of_mem (pQ hv).2;have F1:=uZ g c o hv R1 hgn hc (fun x hx=>(hNB x hx).2.2) hK ho (n+1) (by omega);have F2:=uZ (E.map mj) 0 (fx o.length) hvE R2 (by omega) ⟨Int.le_refl _,by omega⟩ (fun y hy=>(hNBE y hy).1.2.2) (fun p hp y hy=>by
  have hlt:p.toNat<(E.map mj).length:=by omega
  have hx:(E.map mj)[p.toNat]? =some (E.map mj)[p.toNat]:=zam hlt;unfold bt at hy;rw [hx] at hy;exact (hNBE _ (List.getElem_mem hlt)).2.2 y hy) (by simp [fx];exact ho) (n+1) (by omega)
 have hndr:(fx o.length).Nodup:=hvE.nodup List.nodup_nil;have hpl:∀ z:Int,0<=z->z<(o.length:Int)->dN (fx o.length) z=z:=fun z h0 h1=>by
  have:(fx o.length)[z.toNat]? =some z:=by
   unfold fx;rw [List.getElem?_map,List.getElem?_range (by omega)]
   show some ((z.toNat:Nat):Int)=some z
   rw [show ((z.toNat:Nat):Int)=z by omega]
  rw [MT hndr this];omega
 have hab:(o.map (vH g o)).map Ds=((fx o.length).map (vH (E.map mj) (fx o.length))).map Ds:=by
  apply List.ext_getElem?;intro j;rw [List.getElem?_map,List.getElem?_map,List.getElem?_map,List.getElem?_map];by_cases hj:j<o.length
  .have hy:(E.map mj)[j]? =some (E.map mj)[j]:=zam (by omega)
   obtain ⟨x,kd,tg,s,kk,plx,bb,h1,h2,h3,h4,h5⟩:=getE j _ hy;rw [h4] at hy;have hrj:(fx o.length)[j]? =some (j:Int):=by
    unfold fx;rw [List.getElem?_map,List.getElem?_range hj];rfl
   rw [h1,hrj];simp only [Option.map_some];unfold vH Ds;rw [h3,show ((j:Nat):Int).toNat=j from rfl,hy];simp only;have:(kk.map (dN o)).map (dN (fx o.length))=kk.map (dN o):=by
    rw [List.map_map];apply List.map_congr_left;intro v hv1;have:=zG (hcl x h2 v (by unfold bt;rw [h3];exact hv1));exact hpl _ this.1 this.2
   rw [this]
  .rw [List.getElem?_eq_none (by omega),List.getElem?_eq_none (by simp [fx];omega)]
   rfl
 have S:=u9 (n+1) g (E.map mj) [c] [0] _ _ [0] R1 R2 F1 F2 hab (by simp;exact ho) (by simp) (fun y hy=>by
  obtain ⟨x,hx,rfl⟩:=List.mem_map.1 hy;have x0:=hr x hx;have hlt:x.toNat<g.length:=by omega
  have hgx:g[x.toNat]? =some g[x.toNat]:=zam hlt;have:=(hNB _ (List.getElem_mem hlt)).2.2;unfold vH;rw [hgx];simp only [List.length_map];exact this) (by omega)
 have L:=A9 g [c] [0] E [] (n+4) (by simp;omega) htx (by omega)
 grind
theorem oP (n:Nat) (hn:50000000<=n) (g:lO) (o:Int×m6) (w:Sh.wf (.cons (.bH (.cons am (.cons .str (.cons .str (.cons (.bH am) .bool))))) (.bH am)) g) (_:Sh.wf (.cons am (.cons am (.cons am (.cons .bool .bool)))) o):
  kQ n g o=some (true,()):=by
 have hr:reachBytes<=281474976710656:=by decide
 have w1:=w.1.1;have hs:∀ x∈g.1,SB x:=fun x hx=>by
  have q:=w.1.2 x hx;exact ⟨Nat.le_trans q.2.1 hr,Nat.le_trans q.2.2.1 hr,Nat.le_trans q.2.2.2.1.1 hr⟩
 unfold kQ;have ee:(g.1,g.2)=g:=rfl;rw [ee];obtain ⟨m,rfl⟩:∃ m,n=m+3000:=⟨n - 3000,by omega⟩;refine bS (FC m) ?_;generalize m+3000=n at hn;refine bS (Kx (n+8) g hs (by omega) (by omega)) (cF rfl ?_);cases hb:Pp g with
 |true=>rfl
 |false=>
  have hg:=GB.of hb;refine cF rfl ?_;by_cases h1:1<g.2.length
  .exact cT (ao (by unfold len;omega)) rfl
  refine cF (aC (by unfold len;omega)) ?_;obtain ⟨ev,e,h1,h2⟩:=Ct (n+1) g hg o (by omega) (by omega);refine bS h1 ?_;rcases h2 with he |⟨rfl,hR,h3⟩
  .grind
  refine cF rfl ?_;obtain ⟨g1,g2⟩:=g;rcases h3 with ⟨e1,e2⟩ |⟨c,u,p,v,e1,e2,e3,e4⟩
  .simp only at e1
   subst e1;subst e2;have hR2:=hR;unfold ky at hR2;rw [zae] at hR2;have hgk:nE g1<=400:=hg.k;have hgn:g1.length<=60:=hg.n;have R1:∀ n,20000<=n->fh n (g1,[])=some (true,()):=fun n hn=>mE n g1 [] hgn (by simp) (by omega) hg.b (fun x hx=>List.all_eq_true.1 hR2.2 x hx) (fun y hy=>by cases hy) hn
   have R2:∀ n,20000<=n->fh n ([],[])=some (true,()):=fun n hn=>mE n [] [] (by simp) (by simp) (by simp [nE]) (fun x hx=>by cases hx) (fun x hx=>by cases hx) (fun y hy=>by cases hy) hn
   have S:=u9 (n+1) g1 [] [] [] [] [] [] R1 R2 (tY g1 R1 hgn (n+1) (by omega)) (tY [] R2 (by simp) (n+1) (by omega)) rfl (by simp) (by simp) (fun x hx=>by cases hx) (by omega);exact bS (Ni (n+5) (by omega)) (cF rfl (bS (A9 g1 [] [] [] [] (n+4) (by simp) (fun x hx=>by cases hx) (by simp;omega)) (bS S rfl)))
  .simp only at e1
   subst e1;subst e2;obtain ⟨E,q1,q2,q3⟩:=Mm n (by omega) g1 c _ o.2.2.2.2 u p v hg hR e3 e4
   grind
end Go.Proofs.YteknbnkjelmfaaaGreatDoor
namespace Go.Proofs.YteknbnkjelmfaaaGreatDoor
open Go Go.Iv Go.Gv Go.Shelf Go.Proofs
def AY:Go.Shelf.Ren:=⟨fun |171=>80 |243=>96 |246=>108 |283=>124 |284=>125 |285=>126 |286=>127 |129=>147 |317=>146 |318=>148 |319=>149 |320=>150 |337=>166 |338=>167 |n=>n,fun |3=>3 |9=>9 |2=>2 |4=>4 |171=>135 |0=>0 |53=>128 |37=>96 |5=>5 |173=>138 |212=>150 |51=>151 |20=>20 |213=>152 |46=>123 |232=>179 |233=>180 |n=>n,fun |17=>2 |18=>3 |19=>4 |n=>n⟩
theorem O6:Go.Proofs.LaysM.n171 Tryz.prog AY:={
 mixed:=by kernel_rfl
 f129:=fX Tryz.func147
 f171:=fX Tryz.func80
 f243:=fX Tryz.func96
 f246:=fX Tryz.func108
 f283:=fX Tryz.func124
 f284:=fX Tryz.func125
 f285:=fX Tryz.func126
 f286:=fX Tryz.func127
 f317:=fX Tryz.func146
 f318:=fX Tryz.func148
 f319:=fX Tryz.func149
 f320:=fX Tryz.func150
 f337:=fX Tryz.func166
 f338:=fX Tryz.func167
 t0:=Tryz.underlying0
 a0:=Tryz.isAgg0
 z0:=Tryz.sizeOf0
 v0:=Tryz.zeroValue0
 t2:=Tryz.underlying2
 a2:=Tryz.isAgg2
 z2:=Tryz.sizeOf2
 v2:=Tryz.zeroValue2
 t3:=Tryz.underlying3
 a3:=Tryz.isAgg3
 z3:=Tryz.sizeOf3
 v3:=Tryz.zeroValue3
 t4:=Tryz.underlying4
 a4:=Tryz.isAgg4
 z4:=Tryz.sizeOf4
 v4:=Tryz.zeroValue4
 t5:=Tryz.underlying5
 a5:=Tryz.isAgg5
 z5:=Tryz.sizeOf5
 v5:=Tryz.zeroValue5
 t9:=Tryz.underlying9
 a9:=Tryz.isAgg9
 z9:=Tryz.sizeOf9
 v9:=Tryz.zeroValue9
 t20:=Tryz.underlying20
 a20:=Tryz.isAgg20
 z20:=Tryz.sizeOf20
 v20:=Tryz.zeroValue20
 t37:=Tryz.underlying96
 a37:=Tryz.isAgg96
 z37:=Tryz.sizeOf96
 v37:=Tryz.zeroValue96
 t46:=Tryz.underlying123
 a46:=Tryz.isAgg123
 z46:=Tryz.sizeOf123
 v46:=Tryz.zeroValue123
 t51:=Tryz.underlying151
 a51:=Tryz.isAgg151
 z51:=Tryz.sizeOf151
 v51:=Tryz.zeroValue151
 t53:=Tryz.underlying128
 a53:=Tryz.isAgg128
 z53:=Tryz.sizeOf128
 v53:=Tryz.zeroValue128
 t171:=Tryz.underlying135
 a171:=Tryz.isAgg135
 z171:=Tryz.sizeOf135
 v171:=Tryz.zeroValue135
 t173:=Tryz.underlying138
 a173:=Tryz.isAgg138
 z173:=Tryz.sizeOf138
 v173:=Tryz.zeroValue138
 t212:=Tryz.underlying150
 a212:=Tryz.isAgg150
 z212:=Tryz.sizeOf150
 v212:=Tryz.zeroValue150
 t213:=Tryz.underlying152
 a213:=Tryz.isAgg152
 z213:=Tryz.sizeOf152
 t232:=Tryz.underlying179
 a232:=Tryz.isAgg179
 z232:=Tryz.sizeOf179
 v232:=Tryz.zeroValue179
 t233:=Tryz.underlying180
 a233:=Tryz.isAgg180
 z233:=Tryz.sizeOf180
 v233:=Tryz.zeroValue180
 g17:=by kernel_rfl
 g18:=by kernel_rfl
 g19:=by kernel_rfl
 i0:=by kernel_rfl
 i2:=by kernel_rfl
 i3:=by kernel_rfl
 i4:=by kernel_rfl
 i5:=by kernel_rfl
 i9:=by kernel_rfl
 i20:=by kernel_rfl
 i37:=by kernel_rfl
 i46:=by kernel_rfl
 i51:=by kernel_rfl
 i53:=by kernel_rfl
 i171:=by kernel_rfl
 i173:=by kernel_rfl
 i212:=by kernel_rfl
 i232:=by kernel_rfl
 i233:=by kernel_rfl
 m17:=by kernel_rfl
 m18:=by kernel_rfl
 m19:=by kernel_rfl
}
def Bi:Go.Shelf.Ren:=⟨fun |161=>161 |231=>175 |227=>176 |233=>177 |235=>178 |228=>190 |197=>155 |151=>191 |260=>170 |152=>201 |137=>206 |119=>207 |224=>187 |225=>186 |217=>185 |266=>198 |n=>n,fun |9=>9 |4=>4 |3=>3 |5=>5 |117=>174 |116=>173 |0=>0 |124=>177 |105=>155 |21=>21 |119=>119 |46=>123 |139=>122 |138=>121 |n=>n,fun |3=>0 |4=>1 |n=>n⟩
theorem OI:Go.Proofs.Lays.n161 Tryz.prog Bi:={
 mixed:=by kernel_rfl
 f119:=fX Tryz.func207
 f137:=fX Tryz.func206
 f151:=fX Tryz.func191
 f152:=fX Tryz.func201
 f161:=fX Tryz.func161
 f197:=fX Tryz.func155
 f217:=fX Tryz.func185
 f224:=fX Tryz.func187
 f225:=fX Tryz.func186
 f227:=fX Tryz.func176
 f228:=fX Tryz.func190
 f231:=fX Tryz.func175
 f233:=fX Tryz.func177
 f235:=fX Tryz.func178
 f260:=fX Tryz.func170
 f266:=fX Tryz.func198
 t0:=Tryz.underlying0
 a0:=Tryz.isAgg0
 z0:=Tryz.sizeOf0
 v0:=Tryz.zeroValue0
 t3:=Tryz.underlying3
 a3:=Tryz.isAgg3
 z3:=Tryz.sizeOf3
 v3:=Tryz.zeroValue3
 t4:=Tryz.underlying4
 a4:=Tryz.isAgg4
 z4:=Tryz.sizeOf4
 v4:=Tryz.zeroValue4
 t5:=Tryz.underlying5
 a5:=Tryz.isAgg5
 z5:=Tryz.sizeOf5
 v5:=Tryz.zeroValue5
 t9:=Tryz.underlying9
 a9:=Tryz.isAgg9
 z9:=Tryz.sizeOf9
 v9:=Tryz.zeroValue9
 t21:=Tryz.underlying21
 a21:=Tryz.isAgg21
 z21:=Tryz.sizeOf21
 v21:=Tryz.zeroValue21
 t46:=Tryz.underlying123
 a46:=Tryz.isAgg123
 z46:=Tryz.sizeOf123
 v46:=Tryz.zeroValue123
 t105:=Tryz.underlying155
 a105:=Tryz.isAgg155
 z105:=Tryz.sizeOf155
 v105:=Tryz.zeroValue155
 t116:=Tryz.underlying173
 a116:=Tryz.isAgg173
 z116:=Tryz.sizeOf173
 t117:=Tryz.underlying174
 a117:=Tryz.isAgg174
 z117:=Tryz.sizeOf174
 v117:=Tryz.zeroValue174
 t119:=Tryz.underlying119
 a119:=Tryz.isAgg119
 z119:=Tryz.sizeOf119
 t124:=Tryz.underlying177
 a124:=Tryz.isAgg177
 z124:=Tryz.sizeOf177
 v124:=Tryz.zeroValue177
 t138:=Tryz.underlying121
 a138:=Tryz.isAgg121
 z138:=Tryz.sizeOf121
 v138:=Tryz.zeroValue121
 t139:=Tryz.underlying122
 a139:=Tryz.isAgg122
 z139:=Tryz.sizeOf122
 v139:=Tryz.zeroValue122
 g3:=by kernel_rfl
 g4:=by kernel_rfl
}
def Bt:Go.Shelf.Ren:=⟨fun |196=>79 |259=>95 |n=>n,fun |9=>9 |4=>4 |3=>3 |5=>5 |12=>12 |119=>119 |0=>0 |46=>123 |139=>122 |138=>121 |53=>128 |n=>n,fun |3=>0 |4=>1 |n=>n⟩
theorem Oy:Go.Proofs.Lays.n196 Tryz.prog Bt:={
 mixed:=by kernel_rfl
 f196:=fX Tryz.func79
 f259:=fX Tryz.func95
 t0:=Tryz.underlying0
 a0:=Tryz.isAgg0
 z0:=Tryz.sizeOf0
 v0:=Tryz.zeroValue0
 t3:=Tryz.underlying3
 a3:=Tryz.isAgg3
 z3:=Tryz.sizeOf3
 v3:=Tryz.zeroValue3
 t4:=Tryz.underlying4
 a4:=Tryz.isAgg4
 z4:=Tryz.sizeOf4
 v4:=Tryz.zeroValue4
 t5:=Tryz.underlying5
 a5:=Tryz.isAgg5
 z5:=Tryz.sizeOf5
 v5:=Tryz.zeroValue5
 t9:=Tryz.underlying9
 a9:=Tryz.isAgg9
 z9:=Tryz.sizeOf9
 v9:=Tryz.zeroValue9
 t12:=Tryz.underlying12
 a12:=Tryz.isAgg12
 z12:=Tryz.sizeOf12
 v12:=Tryz.zeroValue12
 t46:=Tryz.underlying123
 a46:=Tryz.isAgg123
 z46:=Tryz.sizeOf123
 v46:=Tryz.zeroValue123
 t53:=Tryz.underlying128
 a53:=Tryz.isAgg128
 z53:=Tryz.sizeOf128
 v53:=Tryz.zeroValue128
 t119:=Tryz.underlying119
 a119:=Tryz.isAgg119
 z119:=Tryz.sizeOf119
 t138:=Tryz.underlying121
 a138:=Tryz.isAgg121
 z138:=Tryz.sizeOf121
 v138:=Tryz.zeroValue121
 t139:=Tryz.underlying122
 a139:=Tryz.isAgg122
 z139:=Tryz.sizeOf122
 v139:=Tryz.zeroValue122
 g3:=by kernel_rfl
 g4:=by kernel_rfl
}
theorem Ur:si Tryz.prog 1 80 2:=JI ⟨_,_,Tryz.func80,rfl⟩ (by kernel_rfl) fun n w h0 h1 ht=>Go.Proofs.Any.strconv_Itoa O6 n h0 h1 w ht
theorem Ta:si Tryz.prog 2 161 0:=HR ⟨_,_,Tryz.func161,rfl⟩ fun s cutset w h1 h2=>Go.Proofs.Any.strings_TrimLeft_laid OI (by kernel_rfl) s cutset w h1 h2
theorem Uz:si Tryz.prog 3 79 1:=Fw (g1:=0) (g2:=1) (by decide) ⟨_,_,Tryz.func79,rfl⟩ fun s w h1 h2=>Go.Proofs.Any.utf8_ValidString Oy s w h1 h2
theorem ME:qp Tryz.prog (cj hint):=LW (show qi Tryz.prog QY from ⟨Ur,Ta,Uz,trivial⟩)
end Go.Proofs.YteknbnkjelmfaaaGreatDoor
