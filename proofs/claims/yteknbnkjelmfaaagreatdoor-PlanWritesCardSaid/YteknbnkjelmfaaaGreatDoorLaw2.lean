/- Events of a graph are documents. -/
import Derived.Test.YteknbnkjelmfaaaGreatDoorLaw1
import Derived.Test.YteknbnkjelmfaaaGreatDoorGvSpecX
import Derived.Test.YteknbnkjelmfaaaGreatDoorProg
import Derived.Test.YteknbnkjelmfaaaGreatDoorGs
import Derived.Test.YteknbnkjelmfaaaGreatDoorAl
set_option linter.unusedSimpArgs false
set_option linter.unusedVariables false
namespace Go.Proofs.YteknbnkjelmfaaaGreatDoor
open Go Go.Iv Go.Gv
set_option maxRecDepth 10000
def H9 (s:List (Int×Bool)):Nat->Nat
 |0=>0
 |j+1=>H9 s j+(if dD KI s (j:Int) false then 0 else 1)
theorem Mg (s:List (Int×Bool)) (c:Int):∀ N:Nat,(N:Int)<=c->H9 (dq KI s c true) N=H9 s N:=by
 intro N
 induction N with
 |zero=>intro _;rfl
 |succ N ih=>
  intro h;have hne:¬ ((N:Int)=c):=by omega
  show H9 (dq KI s c true) N+(if dD KI (dq KI s c true) (N:Int) false then 0 else 1)=H9 s N+(if dD KI s (N:Int) false then 0 else 1)
  rw [ih (by omega),iK,if_neg hne]
theorem OV (s:List (Int×Bool)) (c:Int) (hc:dD KI s c false=false) (h0:0<=c):∀ N:Nat,c<(N:Int)->H9 (dq KI s c true) N+1=H9 s N:=by
 intro N
 induction N with
 |zero=>intro h;omega
 |succ N ih=>
  intro h
  show H9 (dq KI s c true) N+(if dD KI (dq KI s c true) (N:Int) false then 0 else 1)+1=H9 s N+(if dD KI s (N:Int) false then 0 else 1)
  by_cases hcN:c=(N:Int)
  ·subst hcN
   rw [Mg s _ N (Int.le_refl _),iK,if_pos rfl,hc];simp
  ·have hne:¬ ((N:Int)=c):=fun e=>hcN e.symm
   rw [iK,if_neg hne];have:=ih (by omega);omega
theorem U0 (s:List (Int×Bool)):∀ N:Nat,H9 s N<=N:=by
 intro N
 induction N with
 |zero=>exact zam _
 |succ N ih=>simp only [H9];split<;>omega
theorem NU (c0:List NL) (c1:List Int) (c2 c3 c4:Int) (c5 c6:Bool) (c9:Int) (c10:List cV) (m70:List (Int×List UInt8)) (g:List NL) (rt ks:List Int) (N:Nat) (hks:∀ c∈ks,0<=c/\c<(N:Int)) (hkl:ks.length<=1000):∀ (r n t:Nat) (w:List Int) (u:List (Int×Int)) (s:List (Int×Bool)),t+r=ks.length->r<n->w.length+H9 s N<=100000->(∀ c∈w,0<=c/\c<(N:Int))->
  ∃ w' u' s',iB n w ks (len ks) (t:Int) c0 c1 c2 c3 c4 c5 c6 c9 c10 u m70 g rt s=some (((),((),((),(w',())))),((c0,(c1,(c2,(c3,(c4,(c5,(c6,((),((),(c9,(c10,()))))))))))),(((),()),(u',(m70,((g,(rt,())),(((),()),(s',()))))))))/\
   w'.length+H9 s' N=w.length+H9 s N/\∀ c∈w',0<=c/\c<(N:Int):=by
 intro r
 induction r with
 |zero=>
  intro n t w u s h1 hn hw hc;obtain ⟨n,rfl⟩:∃ k,n=k+1:=⟨n - 1,by omega⟩;refine ⟨w,u,s,by simp only [iB,aR (show len ks<=(t:Int) by unfold len;omega),zab],rfl,hc⟩
 |succ r ih=>
  intro n t w u s h1 hn hw hc;obtain ⟨n,rfl⟩:∃ k,n=k+1:=⟨n - 1,by omega⟩;have hlt:t<ks.length:=by omega
  have e0:(Int.toNat (t:Int))=t:=rfl;have hx:ks[t]? =some ks[t]:=zan hlt;have hk:=hks _ (List.getElem_mem hlt);generalize ks[t]=c at hx hk;have w1:zap ((t:Int)+1)=((t+1:Nat):Int):=by rw [af]<;>omega
  have rm:room ((w.length+List.length (c::([]:List Int)))*9)=true:=bQ (by simp;omega);rw [iB];simp only [aB (show (t:Int)<len ks by unfold len;omega),ao (show (0:Int)<=(t:Int) by omega),zac,e0,hx,zaa,w1,rm];cases hs:dD KI s c false with
  |true=>
   simp only [zag,zab];exact ih n (t+1) w _ s (by omega) (by omega) hw hc
  |false=>
   simp only [Bool.not_false,zac];have hm:=OV s c hs hk.1 N hk.2;obtain ⟨w',u',s',q1,q2,q3⟩:=ih n (t+1) (w++ [c]) (dq KI u c (zap (dD KI u c 0+1))) (dq KI s c true) (by omega) (by omega) (by simp;omega) (fun x hx=>by
    rcases List.mem_append.1 hx with h |h
    ·exact hc x h
    ·rw [List.mem_singleton.1 h];exact hk)
   exact ⟨w',u',s',q1,by rw [q2];simp;omega,q3⟩
theorem P3 (c0:List NL) (c1:List Int) (c2 c3 c4:Int) (c5 c6:Bool) (c9:Int) (c10:List cV) (m70:List (Int×List UInt8)) (g:List NL) (rt:List Int) (hg:∀ (j:Nat) x,g[j]? =some x->BC g.length x):∀ (M n:Nat) (w:List Int) (u:List (Int×Int)) (s:List (Int×Bool)),w.length+H9 s g.length<=M->M<=90000->M+1000<n->(∀ c∈w,0<=c/\c<(g.length:Int))->
  ∃ u' s',j0 n w c0 c1 c2 c3 c4 c5 c6 c9 c10 u m70 g rt s=some ((),((c0,(c1,(c2,(c3,(c4,(c5,(c6,((),((),(c9,(c10,()))))))))))),(((),()),(u',(m70,((g,(rt,())),(((),()),(s',())))))))):=by
 intro M
 induction M with
 |zero=>
  intro n w u s hw hM hn hc;obtain ⟨n,rfl⟩:∃ k,n=k+1:=⟨n - 1,by omega⟩;have:w= []:=List.length_eq_zero_iff.1 (by omega);subst this;exact ⟨u,s,rfl⟩
 |succ M ih=>
  intro n w u s hw hM hn hc;obtain ⟨n,rfl⟩:∃ k,n=k+1:=⟨n - 1,by omega⟩;rcases List.eq_nil_or_concat w with rfl |⟨w0,c,rfl⟩
  ·exact ⟨u,s,rfl⟩
  ·simp only [List.concat_eq_append] at hw hc ⊢
   simp only [zaf,List.length_singleton] at hw;have hcc:=hc c (by simp);have w1:zap ((w0.length:Int)+1 - 1)=(w0.length:Int):=by rw [Int.add_sub_cancel];exact af (by omega) (by omega)
   have e1:aX 0 ((w0.length:Int)+1)=true:=aB (by omega);have e2:au 0 (w0.length:Int)=true:=ao (by omega);have e3:aX (w0.length:Int) ((w0.length:Int)+1)=true:=aB (by omega);have e5:au (w0.length:Int) ((w0.length:Int)+1)=true:=ao (by omega);have e6:au 0 c=true:=ao hcc.1;have e7:(Int.toNat (w0.length:Int))=w0.length:=rfl;have hlt:c.toNat<g.length:=by omega
   have hx:g[c.toNat]? =some g[c.toNat]:=zan hlt;have ok:=hg _ _ hx;generalize g[c.toNat]=x at hx ok;obtain ⟨w',u',s',q1,q2,q3⟩:=NU c0 c1 c2 c3 c4 c5 c6 c9 c10 m70 g rt x.2.2.2.1 g.length ok.kr (by have:=ok.kl;omega) x.2.2.2.1.length (n+1) 0 w0 u s (by omega) (by have:=ok.kl;omega) (by omega) (fun y hy=>hc y (by simp [hy]));rw [show ((0:Nat):Int)=0 from rfl] at q1;obtain ⟨u2,s2,q4⟩:=ih n w' u' s' (by omega) (by omega) (by omega) q3;refine ⟨u2,s2,?_⟩;rw [j0];simp only [c7,w1,e1,e2,e3,e5,e6,e7,zac,zai,dW,jU,hx,zaa];refine (congrArg (fun z=>Option.bind z _) q1).trans ?_;exact q4
theorem Ma (g:List NL) (rt:List Int) (c2 c3 c4:Int) (c5 c6:Bool) (hg:∀ (j:Nat) x,g[j]? =some x->BC g.length x) (hgl:g.length<=60) (hrt:∀ c∈rt,0<=c/\c<(g.length:Int)) (hrl:rt.length<=20):∀ (r n t:Nat) (c9:Int) (out:List cV),t+r=rt.length->120000+r<=n->0<=c9->c9<=20000->rN c9 out+3*r<=1000000000->
  ∃ res,zr n rt (len rt) (t:Int) c2 c3 c4 c5 c6 g rt c2 c3 c4 c5 c6 c9 out=some res/\
   (
    (∃ e st,res= .inr (((),(e,())),st)/\e≠0)∨
    (∃ c9' rest,res= .inl (((),()),((c2,(c3,(c4,(c5,(c6,()))))),((g,(rt,(c2,(c3,(c4,(c5,(c6,((),((),(c9',(out++rest,()))))))))))),())))/\sC c5 (decide (t=0)) rest/\((out++rest).length:Int)<=rN c9 out+3*r)):=by
 intro r
 induction r with
 |zero=>
  intro n t c9 out h1 hn h0 h9 hp;obtain ⟨n,rfl⟩:∃ k,n=k+1:=⟨n - 1,by omega⟩;refine ⟨_,by simp only [zr,aR (show len rt<=(t:Int) by unfold len;omega),zab];rfl,.inr ⟨c9,[],by rw [List.append_nil],.nil,?_⟩⟩;unfold rN;simp;omega
 |succ r ih=>
  intro n t c9 out h1 hn h0 h9 hp;obtain ⟨n,rfl⟩:∃ k,n=k+1:=⟨n - 1,by omega⟩;have hlt:t<rt.length:=by omega
  have e0:(Int.toNat (t:Int))=t:=rfl;have hx:rt[t]? =some rt[t]:=zan hlt;have hk:=hrt _ (List.getElem_mem hlt);generalize rt[t]=c at hx hk;have w1:zap ((t:Int)+1)=((t+1:Nat):Int):=by rw [af]<;>omega
  have hu:=U0 (dq KI [] c true) g.length;obtain ⟨u',s',hK⟩:=P3 g rt c2 c3 c4 c5 c6 c9 out [] g rt hg (g.length+1) (n+1) [c] (dq KI [] c 1) (dq KI [] c true) (by simp;omega) (by omega) (by omega) (fun y hy=>by rw [List.mem_singleton.1 hy];exact hk);have hpl:out.length<=1000000000:=by unfold rN at hp;omega
  have rm:∀ e:cV,room ((out.length+List.length (e::([]:List cV)))*73)=true:=fun e=>bQ (by simp;omega)
  have hP:=Mv g rt c2 c3 c4 c5 c6 u' hg 200 (n+2) (by omega) (by omega) (n+2) c false c9 (out++ [vI (c6 ||decide (0<t))]) [] (by omega) hk.1 hk.2 h0 h9 (by rw [iu];omega) ⟨by simpa using h0,fun x hx=>by cases hx⟩;obtain ⟨e,c9',out',nm',p1,p2,p2',p3,p4⟩:=hP;rw [iu] at p3;have hol':out'.length<=1000000010:=by unfold rN at p3 hp;omega
  have rm':∀ e:cV,room ((out'.length+List.length (e::([]:List cV)))*73)=true:=fun e=>bQ (by simp;omega)
  have zlt:aX (0:Int) (t:Int)=decide (0<t):=by
   rw [eO,decide_eq_decide];omega
  have red:zr (n+1) rt (len rt) (t:Int) c2 c3 c4 c5 c6 g rt c2 c3 c4 c5 c6 c9 out=
    (
     bif (e !=0) then some (.inr (((),(e,())),((c2,(c3,(c4,(c5,(c6,()))))),((g,(rt,(c2,(c3,(c4,(c5,(c6,((),((),(c9',(out'++ [ew],()))))))))))),()))))
     else zr n rt (len rt) ((t+1:Nat):Int) c2 c3 c4 c5 c6 g rt c2 c3 c4 c5 c6 c9' (out'++ [ew])):=by
   conv=>lhs;rw [zr]
   simp only [aB (show (t:Int)<len rt by unfold len;omega),ao (show (0:Int)<=(t:Int) by omega),zac,e0,hx,zaa,w1,zlt];have hp1:R4 (n+2) c false 0 g rt c2 c3 c4 c5 c6 c9 (out++ [vI (c6 ||decide (0<t))]) u' []=some ((e,()),Ou g rt c2 c3 c4 c5 c6 c9' out' u' nm'):=p1;cases c6 with
   |true=>
    simp only [Bool.true_or] at hp1;simp only [zac];refine (congrArg (fun z=>Option.bind z _) hK).trans ?_;simp only [zaa,rm,zac];refine (congrArg (fun z=>Option.bind z _) hp1).trans ?_;simp only [zaa,rm',zac];rfl
   |false=>
    simp only [Bool.false_or] at hp1;simp only [zab];refine (congrArg (fun z=>Option.bind z _) hK).trans ?_;simp only [zaa,rm,zac];refine (congrArg (fun z=>Option.bind z _) hp1).trans ?_;simp only [zaa,rm',zac];rfl
  rw [red];by_cases he:e=0
  ·have:(e !=0)=false:=by simp [he]
   rw [this,zab];obtain ⟨p5,p6,w,p7,p8⟩:=p4 he;have pp:rN c9' (out'++ [ew])=rN c9' out'+1:=iu _ _ _;obtain ⟨res,hr,hh⟩:=ih n (t+1) c9' (out'++ [ew]) (by omega) (by omega) (by omega) p5 (by rw [pp];omega);refine ⟨res,hr,?_⟩;rcases hh with h |⟨c9'',rest,q1,q2,q3⟩
   ·exact .inl h
   ·have eq:out'++ [ew]++rest=out++(vI (c6 ||decide (0<t))::(w++ew::rest)):=by rw [p7];simp
    rw [eq] at q1 q3;refine .inr ⟨c9'',_,q1,.cons ?_ p8 ?_,by rw [pp] at q3;omega⟩
    ·rcases Nat.eq_zero_or_pos t with h |h
     ·exact .inl (by simp [h])
     ·exact .inr (by simp [h])
    ·have:decide (t+1=0)=false:=by simp
     rw [this] at q2;exact q2
  ·have:(e !=0)=true:=by simp [he]
   rw [this,zac];exact ⟨_,rfl,.inl ⟨e,_,rfl,he⟩⟩
set_option maxRecDepth 10000
theorem Rx {N:Nat} {x:eu} (h:BZ N x=true) (hb:NB x):BC N x:=by
 unfold BZ Bk at h;simp only [zae] at h;obtain ⟨⟨h1,h2,h3,h4⟩,h5⟩:=h;obtain ⟨b1,b2,b3⟩:=hb;have htl:x.2.1.length<=1000:=by
  rw [Bool.not_eq_true',eO,decide_eq_false_iff_not] at h1;unfold len at h1;omega
 have hkd:x.1=1∨x.1=2∨x.1=3:=by
  unfold HG at h4;by_cases k1:x.1=1
  ·exact .inl k1
  by_cases k2:x.1=2
  ·exact .inr (.inl k2)
  by_cases k3:x.1=3
  ·exact .inr (.inr k3)
  have e1:(x.1==(1:Int))=false:=by simp [k1]
  have e2:(x.1==(2:Int))=false:=by simp [k2]
  have e3:(x.1==(3:Int))=false:=by simp [k3]
  rw [e1,e2,e3] at h4;cases h4
 refine ⟨by rw [←Oo];exact h3,htl,b3,fun c hc=>?_,fun k1=>?_,hkd,fun k3=>?_⟩
 ·have:=List.all_eq_true.1 h5 c hc
  unfold NM at this;exact of_decide_eq_true this
 ·unfold HG at h4
  have e1:(x.1==(1:Int))=true:=by simp [k1]
  rw [e1] at h4;simp only [zac,zae] at h4;have ht:=h4.2;unfold GO at ht;simp only [zae] at ht;refine ⟨b2,?_⟩;exact Option.isSome_iff_exists.1 ht.2
 ·unfold HG at h4
  have e1:(x.1==(1:Int))=false:=by simp [k3]
  have e2:(x.1==(2:Int))=false:=by simp [k3]
  have e3:(x.1==(3:Int))=true:=by simp [k3]
  rw [e1,e2,e3] at h4;simp only [zac,zab,zae] at h4;have:=eq_of_beq h4.2.2;unfold len at this;rw [Int.tmod_eq_emod_of_nonneg (by omega)] at this;omega
theorem Fc (n:Nat) (g:ly) (hg:GB g) (o:Int×(Int×(Int×(Bool×Bool)))) (hn:130000<=n):
  ∃ ev e,events n g o=some (ev,(e,()))/\((e≠0/\ev= [])∨(e=0/\ev.length<=9000000/\sC o.2.2.2.1 true ev)):=by
 have hr:=Sx n g hg (by omega);unfold events;have hr':right n (g.1,g.2)=some (wH g,()):=hr;rw [hr'];simp only [zaa];cases hR:wH g with
 |false=>exact ⟨[],1,rfl,.inl ⟨by decide,rfl⟩⟩
 |true=>
  simp only [zag,zab];unfold wH at hR;simp only [zae] at hR;obtain ⟨h1,h2⟩:=hR;have hnod:∀ (j:Nat) x,g.1[j]? =some x->BC g.1.length x:=fun j x hx=>Rx (List.all_eq_true.1 h2 x (List.mem_of_getElem? hx)) (hg.b x (List.mem_of_getElem? hx))
  have hrt:∀ c∈g.2,0<=c/\c<(g.1.length:Int):=fun c hc=>by
   have:=List.all_eq_true.1 h1 c hc;unfold NM at this;exact of_decide_eq_true this
  have hp0:rN 0 []=8040402:=by decide
  have hgr:=hg.r;obtain ⟨res,q1,q2⟩:=Ma g.1 g.2 o.1 o.2.1 o.2.2.1 o.2.2.2.1 o.2.2.2.2 hnod hg.n hrt hg.r g.2.length (n+5) 0 0 [] (by omega) (by omega) (by omega) (by omega) (by rw [hp0];omega);rw [show ((0:Nat):Int)=0 from rfl] at q1;refine (?_:∃ ev e,(Option.bind (zr (n+5) g.2 (len g.2) 0 o.1 o.2.1 o.2.2.1 o.2.2.2.1 o.2.2.2.2 g.1 g.2 o.1 o.2.1 o.2.2.1 o.2.2.2.1 o.2.2.2.2 0 []) _)=some (ev,(e,()))/\_);rw [q1];simp only [zaa];rcases q2 with ⟨e,st,rfl,he⟩ |⟨c9',rest,rfl,d1,d2⟩
  ·exact ⟨[],e,rfl,.inl ⟨he,rfl⟩⟩
  ·refine ⟨_,0,rfl,.inr ⟨rfl,?_,?_⟩⟩
   ·rw [hp0] at d2
    show ([]++rest).length<=9000000
    omega
   ·show sC o.2.2.2.1 true ([]++rest)
    rw [List.nil_append];exact d1
set_option maxRecDepth 100000
noncomputable def jQ (n:Nat) (x:(Int×(List UInt8×(List UInt8×(List UInt8×(Int×Bool)))))) (up:(Bool×(Bool×(Bool×Int)))) (within:Bool) (inner:Bool) (ahead:(Int×(List UInt8×(List UInt8×(List UInt8×(Int×Bool)))))):Option (Bool×Unit):=
 bif (aX 262144 (len x.2.1)) then
 some (false,())
 else
 Option.bind (bif (x.2.2.2.2.1==1) then
  some (x.2.1==([]:List UInt8))
 else
 some false) fun b1=>
 bif b1 then
 Option.bind (bif (!(x.2.2.1==([]:List UInt8))) then
  some true
  else
  bif (!(x.2.2.2.1==([]:List UInt8))) then
  some true
  else
  bif up.2.2.1 then
  some true
  else
  bif within then
  bif (!up.1) then
   some true
  else
  bif (!within) then
   some ahead.2.2.2.2.2
  else
  some false
  else
  bif (!within) then
  some ahead.2.2.2.2.2
  else
  some false) fun b3=>
 some (b3,())
 else
 Option.bind (Sl n x.2.2.2.2.1 x.2.1 inner) fun y4=>
 some (y4.1,())
noncomputable def o5:aZ:=⟨23,[(true,sE),(true,(.cons .bool (.cons .bool (.cons .bool (.int .i64))))),(false,.bool),(false,.bool),(true,sE)],[(false,.bool)],8,fun n x=>jQ n x.1 x.2.1 x.2.2.1 x.2.2.2.1 x.2.2.2.2.1⟩
theorem Db (n:Nat):az Tryz.prog hint aI o5 n:=
 az.of (hk:=fun β=>(aq.mk [Kj] []).hk β) (sh:=aI) (fun m _=>ab.aC (ab.nil.fn SD) m) (fun x=>by kernel_rfl)
noncomputable def pw:Tm:=⟨[],[],64,64,1000⟩
noncomputable def xL:Tm:=⟨[(2,.one (.bool))],[],64,64,1000⟩
noncomputable def KY:Tm:=⟨[(0,.one (.aT sE)),(3,.one (.all 64 61 (.cons .bool (.cons .bool (.cons .bool (.int .i64)))) .any)),(4,.one (.int .i64))],[],64,65,1000⟩
noncomputable def oQ (r:qE->(List (Bool×(Bool×(Bool×Int))))->Int->Option ((Unit×Unit)⊕((Bool×Unit)×Unit))) (x1570:Int×List UInt8×List UInt8×List UInt8×Int×Bool) (t4:Int) (t0:List (Int×List UInt8×List UInt8×List UInt8×Int×Bool)) (t3:List (Bool×Bool×Bool×Int)):Option ((Unit×Unit)⊕((Bool×Unit)×Unit)):=
 Option.bind (bif (!x1570.2.2.2.2.2) then
  bif (aX 0 t4) then
  bif (au 0 (zap (t4 - 1))) then
   Option.bind (t0[(Int.toNat (zap (t4 - 1)))]?) fun x1579=>
   some (!x1579.2.2.2.2.2)
  else
   none
  else
  some false
 else
  some false) fun b1580=>
 bif b1580 then
 some (.inr ((false,()),()))
 else
 r t0 t3 (zap (t4+1))
noncomputable def oZ (r:qE->(List (Bool×(Bool×(Bool×Int))))->Int->Option ((Unit×Unit)⊕((Bool×Unit)×Unit))) (x1573:Bool×Bool×Bool×Int) (t3:List (Bool×Bool×Bool×Int)) (t0:List (Int×List UInt8×List UInt8×List UInt8×Int×Bool)) (t4:Int):Option ((Unit×Unit)⊕((Bool×Unit)×Unit)):=
 Option.bind (bif (!x1573.1) then
  some (x1573.2.2.2==0)
 else
  some false) fun b1582=>
 bif b1582 then
 some (.inr ((false,()),()))
 else
 bif ((au 0 (zap ((len t3) - 1))) &&(au (zap ((len t3) - 1)) (len t3))) then
 r t0 (List.take ((Int.toNat (zap ((len t3) - 1))) - 0) (List.drop 0 t3)) (zap (t4+1))
 else
 none
noncomputable def yz (r:qE->(List (Bool×(Bool×(Bool×Int))))->Int->Option ((Unit×Unit)⊕((Bool×Unit)×Unit))) (t3:List (Bool×Bool×Bool×Int)) (x1588:Bool×Bool×Bool×Int) (x1587:Bool×Bool×Bool×Int) (x1570:Int×List UInt8×List UInt8×List UInt8×Int×Bool) (t0:List (Int×List UInt8×List UInt8×List UInt8×Int×Bool)) (t4:Int):Option ((Unit×Unit)⊕((Bool×Unit)×Unit)):=
 bif (room (((List.length (List.set t3 (Int.toNat (zap ((len t3) - (1:Int)))) (x1588.1,(x1588.2.1,(x1588.2.2.1,(zap (x1587.2.2.2+(1:Int))))))))+(List.length ((x1570.2.2.2.2.2,(false,((x1570.1==(5:Int)),(0:Int)))):: [])))*17)) then
 r t0 ((List.set t3 (Int.toNat (zap ((len t3) - 1))) (x1588.1,(x1588.2.1,(x1588.2.2.1,(zap (x1587.2.2.2+1))))))++((x1570.2.2.2.2.2,(false,((x1570.1==5),0))):: [])) (zap (t4+1))
 else
 none
noncomputable def wy (r:qE->(List (Bool×(Bool×(Bool×Int))))->Int->Option ((Unit×Unit)⊕((Bool×Unit)×Unit))) (t0:List (Int×List UInt8×List UInt8×List UInt8×Int×Bool)) (t3:List (Bool×Bool×Bool×Int)) (x1588:Bool×Bool×Bool×Int) (x1587:Bool×Bool×Bool×Int) (t4:Int):Option ((Unit×Unit)⊕((Bool×Unit)×Unit)):=
 r t0 (List.set t3 (Int.toNat (zap ((len t3) - 1))) (x1588.1,(x1588.2.1,(x1588.2.2.1,(zap (x1587.2.2.2+1)))))) (zap (t4+1))
noncomputable def wK (r:qE->(List (Bool×(Bool×(Bool×Int))))->Int->Option ((Unit×Unit)⊕((Bool×Unit)×Unit))) (t3:List (Bool×Bool×Bool×Int)) (x1570:Int×List UInt8×List UInt8×List UInt8×Int×Bool) (t0:List (Int×List UInt8×List UInt8×List UInt8×Int×Bool)) (t4:Int):Option ((Unit×Unit)⊕((Bool×Unit)×Unit)):=
 bif (room (((List.length t3)+(List.length ((x1570.2.2.2.2.2,(false,((x1570.1==(5:Int)),(0:Int)))):: [])))*17)) then
 r t0 (t3++((x1570.2.2.2.2.2,(false,((x1570.1==5),0))):: [])) (zap (t4+1))
 else
 none
noncomputable def gf (r:qE->(List (Bool×(Bool×(Bool×Int))))->Int->Option ((Unit×Unit)⊕((Bool×Unit)×Unit))) (t3:List (Bool×Bool×Bool×Int)) (x1570:Int×List UInt8×List UInt8×List UInt8×Int×Bool) (x1573:Bool×Bool×Bool×Int) (t0:List (Int×List UInt8×List UInt8×List UInt8×Int×Bool)) (t4:Int) (b1575:Bool):Option ((Unit×Unit)⊕((Bool×Unit)×Unit)):=
 bif (au 0 (zap ((len t3) - 1))) then
 bif ((au 0 (zap ((len t3) - 1))) &&(aX (zap ((len t3) - 1)) (len t3))) then
  Option.bind (t3[(Int.toNat (zap ((len t3) - 1)))]?) fun x1587=>
  bif ((au 0 (zap ((len t3) - 1))) &&(aX (zap ((len t3) - 1)) (len t3))) then
  Option.bind (t3[(Int.toNat (zap ((len t3) - 1)))]?) fun x1588=>
  Option.bind (bif (x1570.1==3) then
   some true
   else
   some (x1570.1==5)) fun b1590=>
  bif b1590 then
   bif x1573.2.1 then
   bif (room (((List.length (List.set t3 (Int.toNat (zap ((len t3) - (1:Int)))) (x1588.1,(x1588.2.1,(x1588.2.2.1,(zap (x1587.2.2.2+(1:Int))))))))+(List.length ((x1570.2.2.2.2.2,(true,((x1570.1==(5:Int)),(0:Int)))):: [])))*17)) then
    r t0 ((List.set t3 (Int.toNat (zap ((len t3) - 1))) (x1588.1,(x1588.2.1,(x1588.2.2.1,(zap (x1587.2.2.2+1))))))++((x1570.2.2.2.2.2,(true,((x1570.1==5),0))):: [])) (zap (t4+1))
   else
    none
   else
   bif b1575 then
   bif (room (((List.length (List.set t3 (Int.toNat (zap ((len t3) - (1:Int)))) (x1588.1,(x1588.2.1,(x1588.2.2.1,(zap (x1587.2.2.2+(1:Int))))))))+(List.length ((x1570.2.2.2.2.2,((!x1573.1),((x1570.1==(5:Int)),(0:Int)))):: [])))*17)) then
    r t0 ((List.set t3 (Int.toNat (zap ((len t3) - 1))) (x1588.1,(x1588.2.1,(x1588.2.2.1,(zap (x1587.2.2.2+1))))))++((x1570.2.2.2.2.2,((!x1573.1),((x1570.1==5),0))):: [])) (zap (t4+1))
   else
    none
   else
   yz r t3 x1588 x1587 x1570 t0 t4
  else
   wy r t0 t3 x1588 x1587 t4
  else
  none
 else
  none
 else
 Option.bind (bif (x1570.1==3) then
  some true
 else
  some (x1570.1==5)) fun b1592=>
 bif b1592 then
 bif x1573.2.1 then
  bif (room (((List.length t3)+(List.length ((x1570.2.2.2.2.2,(true,((x1570.1==(5:Int)),(0:Int)))):: [])))*17)) then
  r t0 (t3++((x1570.2.2.2.2.2,(true,((x1570.1==5),0))):: [])) (zap (t4+1))
  else
  none
 else
 bif b1575 then
  bif (room (((List.length t3)+(List.length ((x1570.2.2.2.2.2,((!x1573.1),((x1570.1==(5:Int)),(0:Int)))):: [])))*17)) then
  r t0 (t3++((x1570.2.2.2.2.2,((!x1573.1),((x1570.1==5),0))):: [])) (zap (t4+1))
  else
  none
 else
 wK r t3 x1570 t0 t4
 else
 r t0 t3 (zap (t4+1))
noncomputable def qG (r:qE->(List (Bool×(Bool×(Bool×Int))))->Int->Option ((Unit×Unit)⊕((Bool×Unit)×Unit))) (x1570:Int×List UInt8×List UInt8×List UInt8×Int×Bool) (b1577:Bool) (t3:List (Bool×Bool×Bool×Int)) (x1573:Bool×Bool×Bool×Int) (t0:List (Int×List UInt8×List UInt8×List UInt8×Int×Bool)) (t4:Int) (b1575:Bool):Option ((Unit×Unit)⊕((Bool×Unit)×Unit)):=
 Option.bind (bif (!x1570.2.2.2.2.2) then
  some b1577
 else
  some false) fun b1594=>
 bif b1594 then
 some (.inr ((false,()),()))
 else
 gf r t3 x1570 x1573 t0 t4 b1575
noncomputable def jG (r:qE->(List (Bool×(Bool×(Bool×Int))))->Int->Option ((Unit×Unit)⊕((Bool×Unit)×Unit))) (t3:List (Bool×Bool×Bool×Int)) (x1570:Int×List UInt8×List UInt8×List UInt8×Int×Bool) (t0:List (Int×List UInt8×List UInt8×List UInt8×Int×Bool)) (t4:Int):Option ((Unit×Unit)⊕((Bool×Unit)×Unit)):=
 bif (au 0 (zap ((len t3) - 1))) then
 bif ((au 0 (zap ((len t3) - 1))) &&(aX (zap ((len t3) - 1)) (len t3))) then
  Option.bind (t3[(Int.toNat (zap ((len t3) - 1)))]?) fun x1624=>
  bif ((au 0 (zap ((len t3) - 1))) &&(aX (zap ((len t3) - 1)) (len t3))) then
  Option.bind (t3[(Int.toNat (zap ((len t3) - 1)))]?) fun x1625=>
  Option.bind (bif (x1570.1==3) then
   some true
   else
   some (x1570.1==5)) fun b1627=>
  bif b1627 then
   yz r t3 x1625 x1624 x1570 t0 t4
  else
   wy r t0 t3 x1625 x1624 t4
  else
  none
 else
  none
 else
 Option.bind (bif (x1570.1==3) then
  some true
 else
  some (x1570.1==5)) fun b1629=>
 bif b1629 then
 wK r t3 x1570 t0 t4
 else
 r t0 t3 (zap (t4+1))
noncomputable def qD (r:qE->(List (Bool×(Bool×(Bool×Int))))->Int->Option ((Unit×Unit)⊕((Bool×Unit)×Unit))) (x1570:Int×List UInt8×List UInt8×List UInt8×Int×Bool) (t3:List (Bool×Bool×Bool×Int)) (t0:List (Int×List UInt8×List UInt8×List UInt8×Int×Bool)) (t4:Int):Option ((Unit×Unit)⊕((Bool×Unit)×Unit)):=
 Option.bind (bif (!x1570.2.2.2.2.2) then
  some false
 else
  some false) fun b1631=>
 bif b1631 then
 some (.inr ((false,()),()))
 else
 jG r t3 x1570 t0 t4
noncomputable def dj (n:Nat) (r:qE->(List (Bool×(Bool×(Bool×Int))))->Int->Option ((Unit×Unit)⊕((Bool×Unit)×Unit))) (t3:List (Bool×Bool×Bool×Int)) (x1570:Int×List UInt8×List UInt8×List UInt8×Int×Bool) (t4:Int) (t0:List (Int×List UInt8×List UInt8×List UInt8×Int×Bool)):Option ((Unit×Unit)⊕((Bool×Unit)×Unit)):=
 bif (au 0 (zap ((len t3) - 1))) then
 bif ((au 0 (zap ((len t3) - 1))) &&(aX (zap ((len t3) - 1)) (len t3))) then
  Option.bind (t3[(Int.toNat (zap ((len t3) - 1)))]?) fun x1573=>
  Option.bind (bif x1573.2.2.1 then
   bif ((Int.tmod x1573.2.2.2 2)==0) then
   some (x1570.1 !=6)
   else
   some false
  else
   some false) fun b1575=>
  Option.bind (bif x1573.1 then
   some true
  else
  bif x1573.2.1 then
   some true
  else
   some b1575) fun b1577=>
  bif (x1570.1==1) then
  oQ r x1570 t4 t0 t3
  else
  bif (x1570.1==2) then
  r t0 t3 (zap (t4+1))
  else
  bif (x1570.1==4) then
  oZ r x1573 t3 t0 t4
  else
  bif (x1570.1==6) then
  oZ r x1573 t3 t0 t4
  else
  bif (x1570.1==7) then
  bif (au 0 (zap (t4 - 1))) then
   Option.bind (t0[(Int.toNat (zap (t4 - 1)))]?) fun x1585=>
   Option.bind (jQ (n+1) (x1570.1,(x1570.2.1,(x1570.2.2.1,(x1570.2.2.2.1,(x1570.2.2.2.2.1,x1570.2.2.2.2.2))))) (x1573.1,(x1573.2.1,(x1573.2.2.1,x1573.2.2.2))) (au 0 (zap ((len t3) - 1))) b1577 (x1585.1,(x1585.2.1,(x1585.2.2.1,(x1585.2.2.2.1,(x1585.2.2.2.2.1,x1585.2.2.2.2.2)))))) fun y1586=>
   bif (!y1586.1) then
   some (.inr ((false,()),()))
   else
   gf r t3 x1570 x1573 t0 t4 b1575
  else
   none
  else
  bif (x1570.1==3) then
  qG r x1570 b1577 t3 x1573 t0 t4 b1575
  else
  bif (x1570.1==5) then
  qG r x1570 b1577 t3 x1573 t0 t4 b1575
  else
  gf r t3 x1570 x1573 t0 t4 b1575
 else
  none
 else
 bif (x1570.1==1) then
 oQ r x1570 t4 t0 t3
 else
 bif (x1570.1==2) then
 r t0 t3 (zap (t4+1))
 else
 bif (x1570.1==4) then
 some (.inr ((false,()),()))
 else
 bif (x1570.1==6) then
 some (.inr ((false,()),()))
 else
 bif (x1570.1==7) then
 bif (au 0 (zap (t4 - 1))) then
  Option.bind (t0[(Int.toNat (zap (t4 - 1)))]?) fun x1622=>
  Option.bind (jQ (n+1) (x1570.1,(x1570.2.1,(x1570.2.2.1,(x1570.2.2.2.1,(x1570.2.2.2.2.1,x1570.2.2.2.2.2))))) (false,(false,(false,0))) (au 0 (zap ((len t3) - 1))) false (x1622.1,(x1622.2.1,(x1622.2.2.1,(x1622.2.2.2.1,(x1622.2.2.2.2.1,x1622.2.2.2.2.2)))))) fun y1623=>
  bif (!y1623.1) then
  some (.inr ((false,()),()))
  else
  jG r t3 x1570 t0 t4
 else
  none
 else
 bif (x1570.1==3) then
 qD r x1570 t3 t0 t4
 else
 bif (x1570.1==5) then
 qD r x1570 t3 t0 t4
 else
 jG r t3 x1570 t0 t4
noncomputable def jR (n:Nat) (r:qE->(List (Bool×(Bool×(Bool×Int))))->Int->Option ((Unit×Unit)⊕((Bool×Unit)×Unit))) (x1570:Int×List UInt8×List UInt8×List UInt8×Int×Bool) (t3:List (Bool×Bool×Bool×Int)) (t4:Int) (t0:List (Int×List UInt8×List UInt8×List UInt8×Int×Bool)):Option ((Unit×Unit)⊕((Bool×Unit)×Unit)):=
 bif (!(x1570.2.2.2.1==([]:List UInt8))) then
 Option.bind (DD (n+5) x1570.2.2.2.1) fun y1572=>
 bif (!y1572.1) then
  some (.inr ((false,()),()))
 else
 dj n r t3 x1570 t4 t0
 else
 dj n r t3 x1570 t4 t0
noncomputable def bA:Nat->qE->(List (Bool×(Bool×(Bool×Int))))->Int->Option ((Unit×Unit)⊕((Bool×Unit)×Unit))
 |0,_,_,_=>none
 |n+1,t0,t3,t4=>
 bif (aX t4 (len t0)) then
  bif (au 0 t4) then
  Option.bind (t0[(Int.toNat t4)]?) fun x1570=>
  Option.bind (wD (n+4) x1570.2.2.1) fun y1571=>
  bif (!(x1570.2.2.1==([]:List UInt8))) then
   bif (!(x1570.2.2.1==([33]:List UInt8))) then
   bif (!y1571.2.1) then
    some (.inr ((false,()),()))
   else
   jR n (bA n) x1570 t3 t4 t0
   else
   jR n (bA n) x1570 t3 t4 t0
  else
  jR n (bA n) x1570 t3 t4 t0
  else
  none
 else
  some (.inl ((),()))
noncomputable def GX:aO:=⟨11,5,none,KY,[(.exit 0,pw),(.ret,xL)],9,fun n x=>bA n x.1.1 x.1.2.1 x.1.2.2.1,[]⟩
theorem uD:pw.ok Tryz.prog hint:=Tm.cC rfl
theorem zQ:xL.ok Tryz.prog hint:=Tm.cC rfl
theorem vV:KY.ok Tryz.prog hint:=Tm.cC rfl
theorem PI:∀ n,aw Tryz.prog hint aI GX n:=
 aw.of (hk:=fun β=>(aq.mk [o5,BH,BE] []).hk β) (sh:=aI) (aQ.of (by kernel_rfl)) vV ⟨⟨uD,zam _,zam _⟩,⟨zQ,zam _,zam _⟩,trivial⟩ (fun m=>ab.aC (((ab.nil.fn Md).fn Mi).fn Db) m)
  (fun _=>by kernel_rfl) (fun m x=>by kernel_rfl)
noncomputable def lK (n:Nat) (l:List (Int×(List UInt8×(List UInt8×(List UInt8×(Int×Bool)))))):Option (Bool×Unit):=
 Option.bind (o8 (n+5) l) fun y0=>
 bif (!y0.1) then
 some (false,())
 else
 Option.bind (vz (n+4) l) fun y1=>
 bif (aX 200 y1.1) then
 some (false,())
 else
 Option.bind (bA n l [] 0) fun y2049=>
 match y2049 with
 | .inl _=>
  some (true,())
 | .inr y2051=>
  some (y2051.1.1,())
noncomputable def ui:aZ:=⟨11,[(false,(.cy sE))],[(false,.bool)],9,fun n x=>lK n x.1⟩
theorem HC (n:Nat):az Tryz.prog hint aI ui n:=
 az.of (hk:=fun β=>(aq.mk [xw,oJ] [GX]).hk β) (sh:=aI) (fun m _=>ab.aC (((ab.nil.fn xv).fn IN).loop PI vV) m) (fun x=>by kernel_rfl)
set_option maxRecDepth 100000
noncomputable def oB (n:Nat) (g:(List (Int×(List UInt8×(List UInt8×(List Int×Bool))))×List Int)) (o:(Int×(Int×(Int×(Bool×Bool))))):Option (Bool×Unit):=
 Option.bind (WV (n+8) (g.1,g.2)) fun y0=>
 bif y0.1 then
 some (true,())
 else
 Option.bind (events (n+1) (g.1,g.2) (o.1,(o.2.1,(o.2.2.1,(o.2.2.2.1,o.2.2.2.2))))) fun y2=>
 bif (y2.2.1 !=0) then
 bif ((len y2.1)==0) then
  some (true,())
 else
 bif (y2.2.1==0) then
  Option.bind (lK n y2.1) fun y3=>
  some (y3.1,())
 else
 some (false,())
 else
 bif (y2.2.1==0) then
 Option.bind (lK n y2.1) fun y4=>
 some (y4.1,())
 else
 some (false,())
noncomputable def jr:aZ:=⟨3,[(true,(.cons (.cy sN) (.cy (.int .i64)))),(true,(.cons (.int .i64) (.cons (.int .i64) (.cons (.int .i64) (.cons .bool .bool)))))],[(false,.bool)],10,fun n x=>oB n x.1 x.2.1⟩
theorem zP (n:Nat):az Tryz.prog hint aI jr n:=
 az.of (hk:=fun β=>(aq.mk [ui,Az,QL] []).hk β) (sh:=aI) (fun m _=>ab.aC (((ab.nil.fn US).fn MP).fn HC) m) (fun x=>by kernel_rfl)
set_option maxRecDepth 10000
abbrev mY:=Bool×(Bool×(Bool×Int))
theorem JG (n:Nat) (hn:100<=n):∃ y b,wD n []=some (y,(b,())):=by
 obtain ⟨n,rfl⟩:∃ k,n=k+100:=⟨n - 100,by omega⟩;exact ⟨_,_,rfl⟩
theorem iF (n:Nat) (l:List cV) (hl:l.length<1000000000) (t3:List mY) (i:Nat) (x:cV) (hx:l[i]? =some x) (ht:td x.2.2.1) (ha:AE x.2.2.2.1) (hn:20000<=n):
  bA (n+1) l t3 (i:Int)=dj n (bA n) t3 x (i:Int) l:=by
 have hi:i<l.length:=(List.getElem?_eq_some_iff.1 hx).1;have e0:(Int.toNat (i:Int))=i:=rfl;have s11:jR n (bA n) x t3 (i:Int) l=dj n (bA n) t3 x (i:Int) l:=by
  unfold jR;rcases ha with h |⟨k,hk,h⟩
  ·rw [h];rfl
  ·have h1:(x.2.2.2.1==([]:List UInt8))=false:=by rw [h,beq_eq_false_iff_ne];exact Pm k
   rw [h1,h,FJ (n+5) k hk (by omega)];rfl
 rw [bA];simp only [aB (show (i:Int)<len l by unfold len;omega),ao (show (0:Int)<=i by omega),zac,e0,hx,zaa,s11];rcases ht with h |⟨h1,h2⟩
 ·obtain ⟨y,b,hy⟩:=JG (n+4) (by omega)
  rw [h,hy];rfl
 ·obtain ⟨y,hy⟩:=Gt (n+4) x.2.2.1 h2 (by omega) h1
  rw [hy];simp only [zaa,zag,zab];cases (x.2.2.1==([]:List UInt8))<;>cases (x.2.2.1==([33]:List UInt8))<;>rfl
theorem rC (fs:List mY) (hf:fs.length<=100000):zap ((fs.length:Int)+1 - 1)=(fs.length:Int):=by
 rw [Int.add_sub_cancel];exact af (by omega) (by omega)
theorem J9 {α:Type} (c:Bool) (a b:α):(bif c then some a else some b)=some (bif c then a else b):=by cases c<;>rfl
theorem JR (r:List cV->List mY->Int->Option ((Unit×Unit)⊕((Bool×Unit)×Unit))) (fs:List mY) (fl kf mp:Bool) (c:Int) (x:cV) (l:List cV) (i:Nat) (b:Bool) (hk:x.1=7∨x.1=8) (h0:0<=c) (hc:c<1000000000) (hf:fs.length<=100000) (hi:i<1000000000):
  gf r (fs++ [(fl,(kf,(mp,c)))]) x (fl,(kf,(mp,c))) l (i:Int) b=r l (fs++ [(fl,(kf,(mp,c+1)))]) ((i+1:Nat):Int):=by
 have w1:zap ((i:Int)+1)=((i+1:Nat):Int):=by rw [af]<;>omega
 have w3:zap (c+1)=c+1:=af (by omega) (by omega);have e1:(Int.toNat (fs.length:Int))=fs.length:=rfl;have b1:au (0:Int) (fs.length:Int)=true:=ao (by omega);have b2:aX (fs.length:Int) ((fs.length:Int)+1)=true:=aB (by omega);have k3:(x.1==3)=false/\(x.1==5)=false:=by rcases hk with h |h<;>rw [h]<;>exact ⟨rfl,rfl⟩
 unfold gf wy;simp only [rC fs hf,c7,b1,b2,zai,zac,zab,e1,dW,zaa,k3.1,k3.2,pe,w1,w3]
theorem TN (r:List cV->List mY->Int->Option ((Unit×Unit)⊕((Bool×Unit)×Unit))) (fs:List mY) (fl kf mp:Bool) (c:Int) (x:cV) (l:List cV) (i:Nat) (b m2:Bool) (hk:x.1=eo m2) (h0:0<=c) (hc:c<1000000000) (hf:fs.length<=100000) (hi:i<1000000000):
  gf r (fs++ [(fl,(kf,(mp,c)))]) x (fl,(kf,(mp,c))) l (i:Int) b=r l ((fs++ [(fl,(kf,(mp,c+1)))])++ [(x.2.2.2.2.2,(kf ||(b && !fl),(m2,0)))]) ((i+1:Nat):Int):=by
 have w1:zap ((i:Int)+1)=((i+1:Nat):Int):=by rw [af]<;>omega
 have w3:zap (c+1)=c+1:=af (by omega) (by omega);have e1:(Int.toNat (fs.length:Int))=fs.length:=rfl;have b1:au (0:Int) (fs.length:Int)=true:=ao (by omega);have b2:aX (fs.length:Int) ((fs.length:Int)+1)=true:=aB (by omega);have k3:(bif x.1==3 then some true else some m2)=some true:=by rw [hk];cases m2<;>rfl
 have k5:(x.1==5)=m2:=by rw [hk];cases m2<;>rfl
 have rm:∀ z:mY,room (((fs++ [(fl,(kf,(mp,c+1)))]).length+List.length (z:: []))*17)=true:=fun z=>bQ (by simp;omega)
 unfold gf yz;simp only [rC fs hf,c7,b1,b2,zai,zac,e1,dW,zaa,k3,k5,pe,w1,w3,rm];cases kf<;>cases b<;>simp only [zac,zab,Bool.true_or,Bool.false_or,zak,Bool.false_and]
theorem ma (n:Nat) (s t a:List UInt8) (st:Int) (fb:Bool) (xs:List Int) (up:mY) (within inner fl:Bool) (ah:cV) (hs:s.length<=9000) (hx:d8 s.length s=some xs) (hm:qg st s xs fl=true) (hi:inner=true->fl=true) (hn:20000<=n):
  jQ n (7,(s,(t,(a,(st,fb))))) up within inner ah=some (true,()):=by
 have h1:aX (262144:Int) (len s)=false:=aR (by unfold len;omega);have h2:(bif st==(1:Int) then some (s==([]:List UInt8)) else some false)=some false:=by
  by_cases e:st=1
  ·have hne:s≠ []:=by
    rintro rfl;have:=(xj hm).2.2 e;have hx':d8 0 []=some xs:=hx;have hx2:xs= []:=by
     have h:=DJ _ _ xs hx;simpa using h
    exact this hx2
   have:(s==([]:List UInt8))=false:=beq_eq_false_iff_ne.2 hne;rw [this];cases (st==(1:Int))<;>rfl
  ·have:(st==(1:Int))=false:=by simp [e]
   rw [this];rfl
 have h3:=MK n st s xs inner (by omega) (by omega) hx;rw [LG hm hi] at h3;unfold jQ;simp only [h1,zab,h2,zaa,h3]
theorem Lz (n:Nat) (l:List cV) (hl:l.length<1000000000) (fs:List mY) (fl kf m:Bool) (c:Int) (i:Nat) (x:cV) (pf:Bool) (hx:l[i]? =some x) (h:C5 pf x) (h1i:1<=i) (h0:0<=c) (hc:c<1000000000) (hf:fs.length<=100000) (hn:20000<=n)
  (hin:(fl ||(kf ||(m &&(Int.tmod c 2==0))))=true->pf=true):
  bA (n+1) l (fs++ [(fl,(kf,(m,c)))]) (i:Int)=bA n l (fs++ [(fl,(kf,(m,c+1)))]) ((i+1:Nat):Int):=by
 have hi:i<l.length:=(List.getElem?_eq_some_iff.1 hx).1;have e1:(Int.toNat (fs.length:Int))=fs.length:=rfl;have b1:au (0:Int) (fs.length:Int)=true:=ao (by omega);have b2:aX (fs.length:Int) ((fs.length:Int)+1)=true:=aB (by omega);have w2:zap ((i:Int) - 1)=((i - 1:Nat):Int):=by rw [af]<;>omega
 have e2:(Int.toNat ((i - 1:Nat):Int))=i - 1:=rfl;have b3:au (0:Int) ((i - 1:Nat):Int)=true:=ao (by omega);have hp:l[i - 1]? =some l[i - 1]:=zan (by omega);have hk:=fG h;have tg:td x.2.2.1/\AE x.2.2.2.1:=by
  rcases h with ⟨k,hkk,rfl⟩ |⟨s,t,a,st,xs,rfl,h1,h2,_⟩
  ·exact ⟨.inl rfl,.inr ⟨k,hkk,rfl⟩⟩
  ·exact ⟨h1,h2⟩
 rw [iF n l hl _ i x hx tg.1 tg.2 hn];unfold dj;simp only [rC fs hf,c7,b1,b2,zai,zac,e1,dW,zaa,J9,w2,b3,e2,hp];rcases h with ⟨k,hk,rfl⟩ |⟨s,t,a,st,xs,rfl,_,_,hs,hd,hm⟩
 ·simp only [show ((8:Int)==1)=false from rfl,show ((8:Int)==2)=false from rfl,show ((8:Int)==4)=false from rfl,show ((8:Int)==6)=false from rfl,show ((8:Int)==7)=false from rfl,show ((8:Int)==3)=false from rfl,show ((8:Int)==5)=false from rfl,zab]
  exact JR (bA n) fs fl kf m c _ l i _ (.inr rfl) h0 hc hf (by omega)
 ·simp only [show ((7:Int)==1)=false from rfl,show ((7:Int)==2)=false from rfl,show ((7:Int)==4)=false from rfl,show ((7:Int)==6)=false from rfl,show ((7:Int)==7)=true from rfl,show ((7:Int) !=6)=true from rfl,zab,zac]
  rw [ma (n+1) s t a st false xs _ _ _ pf _ hs hd hm (fun hq=>hin (by revert hq;cases fl<;>cases kf<;>cases m<;>cases (Int.tmod c 2==0)<;>simp)) (by omega)];simp only [zaa,zag,zab];exact JR (bA n) fs fl kf m c _ l i _ (.inl rfl) h0 hc hf (by omega)
theorem LB (n:Nat) (l:List cV) (hl:l.length<1000000000) (fs:List mY) (fl kf m:Bool) (c:Int) (i:Nat) (m2 pf:Bool) (k2:Nat) (x:cV) (hx:l[i]? =some x) (h:Yf m2 pf k2 x) (h0:0<=c) (hc:c<1000000000) (hf:fs.length<=100000) (hn:20000<=n)
  (hin:(fl ||(kf ||(m &&(Int.tmod c 2==0))))=true->pf=true):
  bA (n+1) l (fs++ [(fl,(kf,(m,c)))]) (i:Int)=bA n l ((fs++ [(fl,(kf,(m,c+1)))])++ [(pf ||decide (k2=0),(kf ||((m &&(Int.tmod c 2==0)) && !fl),(m2,0)))]) ((i+1:Nat):Int):=by
 have hi:i<l.length:=(List.getElem?_eq_some_iff.1 hx).1;have e1:(Int.toNat (fs.length:Int))=fs.length:=rfl;have b1:au (0:Int) (fs.length:Int)=true:=ao (by omega);have b2:aX (fs.length:Int) ((fs.length:Int)+1)=true:=aB (by omega);obtain ⟨t,a,rfl,h1,h2⟩:=h;rw [iF n l hl _ i _ hx h1 h2 hn]
 have key:∀ b,gf (bA n) (fs++ [(fl,(kf,(m,c)))]) (eo m2,([],(t,(a,(0,pf ||decide (k2=0)))))) (fl,(kf,(m,c))) l (i:Int) b=bA n l ((fs++ [(fl,(kf,(m,c+1)))])++ [(pf ||decide (k2=0),(kf ||(b && !fl),(m2,0)))]) ((i+1:Nat):Int):=
  fun b=>TN (bA n) fs fl kf m c _ l i b m2 rfl h0 hc hf (by omega)
 have s7:∀ b inner,(inner=true->pf=true)->qG (bA n) (eo m2,([],(t,(a,(0,pf ||decide (k2=0)))))) inner (fs++ [(fl,(kf,(m,c)))]) (fl,(kf,(m,c))) l (i:Int) b=bA n l ((fs++ [(fl,(kf,(m,c+1)))])++ [(pf ||decide (k2=0),(kf ||(b && !fl),(m2,0)))]) ((i+1:Nat):Int):=by
  intro b inner hq;unfold qG;rw [key];cases inner with
  |false=>cases (pf ||decide (k2=0))<;>rfl
  |true=>rw [hq rfl];rfl
 unfold dj;simp only [rC fs hf,c7,b1,b2,zai,zac,e1,dW,zaa,J9];have hq:∀ b6:Bool,b6=true->(bif fl then true else bif kf then true else bif m then bif Int.tmod c 2==0 then b6 else false else false)=true->pf=true:=by
  intro b6 _ hq;apply hin;revert hq;cases fl<;>cases kf<;>cases m<;>cases (Int.tmod c 2==0)<;>simp
 have hb:∀ b6:Bool,b6=true->(bif m then bif Int.tmod c 2==0 then b6 else false else false)=(m &&(Int.tmod c 2==0)):=by
  intro b6 h6;subst h6;cases m<;>cases (Int.tmod c 2==0)<;>rfl
 cases m2 with
 |true=>
  have n6:(eo true !=6)=true:=rfl;simp only [show (eo true==1)=false from rfl,show (eo true==2)=false from rfl,show (eo true==4)=false from rfl,show (eo true==6)=false from rfl,show (eo true==7)=false from rfl,show (eo true==3)=false from rfl,show (eo true==5)=true from rfl,zab,zac];rw [s7 _ _ (hq _ n6),hb _ n6]
 |false=>
  have n6:(eo false !=6)=true:=rfl;simp only [show (eo false==1)=false from rfl,show (eo false==2)=false from rfl,show (eo false==4)=false from rfl,show (eo false==6)=false from rfl,show (eo false==7)=false from rfl,show (eo false==3)=true from rfl,zab,zac];rw [s7 _ _ (hq _ n6),hb _ n6]
theorem Hx (n:Nat) (l:List cV) (hl:l.length<1000000000) (fs:List mY) (fl kf mp:Bool) (c:Int) (i:Nat) (m2:Bool) (hx:l[i]? =some (eE m2)) (hf:fs.length<=100000) (hn:20000<=n) (hc:fl=false->c≠0):
  bA (n+1) l (fs++ [(fl,(kf,(mp,c)))]) (i:Int)=bA n l fs ((i+1:Nat):Int):=by
 have hi:i<l.length:=(List.getElem?_eq_some_iff.1 hx).1;have w1:zap ((i:Int)+1)=((i+1:Nat):Int):=by rw [af]<;>omega
 have e1:(Int.toNat (fs.length:Int))=fs.length:=rfl;have b1:au (0:Int) (fs.length:Int)=true:=ao (by omega);have b2:aX (fs.length:Int) ((fs.length:Int)+1)=true:=aB (by omega);have b4:au (fs.length:Int) ((fs.length:Int)+1)=true:=ao (by omega);have hz:(bif !fl then some (c==0) else some false)=some false:=by
  cases fl with
  |true=>rfl
  |false=>
   have:(c==0)=false:=by simp [hc rfl]
   rw [this];rfl
 have s2:∀ x:cV,oZ (bA n) (fl,(kf,(mp,c))) (fs++ [(fl,(kf,(mp,c)))]) l (i:Int)=bA n l fs ((i+1:Nat):Int):=by
  intro x;unfold oZ;simp only [hz,zaa,zab,rC fs hf,c7,b1,b4,zai,zac,e1,jU,w1]
 rw [iF n l hl _ i _ hx (.inl rfl) (.inl rfl) hn];unfold dj;simp only [rC fs hf,c7,b1,b2,zai,zac,e1,dW,zaa,J9,s2 (eE m2)];cases m2<;>rfl
theorem So (l:List cV) (hl:l.length<900000000) {F key m odd:Bool} {d k:Nat} {w:List cV} (h:tC F key m odd d k w):∀ (fs:List mY) (fl kf:Bool) (c:Int) (post:List cV) (i n:Nat),fs.length+d<=1000->0<=c->c+k<1000000000->(Int.tmod c 2==0)= !odd->(kf=true->key=true)->(fl=true->(F ||key)=true∨k=0)->l.drop i=w++post->i+w.length<=l.length->1<=i->20000<=n->
  bA (n+w.length) l (fs++ [(fl,(kf,(m,c)))]) (i:Int)=bA n l (fs++ [(fl,(kf,(m,c+k)))]) ((i+w.length:Nat):Int):=by
 induction h with
 |nil=>intro fs fl kf c post i n _ _ _ _ _ _ _ _ _ _;simp
 |@leaf key m odd d k e r h1 _ ih=>
  intro fs fl kf c post i n hd h0 hc ho hkf hfl hr hi h1i hn;simp only [zad] at hi ⊢;have hx:l[i]? =some e:=by have:=aH hr 0;simpa using this
  have hd1:l.drop (i+1)=r++post:=by rw [←zal,hr];rfl
  have hin:(fl ||(kf ||(m &&(Int.tmod c 2==0))))=true->(F ||(key ||(m && !odd)))=true:=by
   rw [ho];intro hq;rcases Bool.or_eq_true _ _▸hq with q |q
   ·rcases hfl q with q |q
    ·revert q;cases F<;>cases key<;>simp
    ·omega
   ·rcases Bool.or_eq_true _ _▸q with q |q
    ·rw [hkf q];cases F<;>rfl
    ·rw [q];cases F<;>cases key<;>rfl
  have ho':(Int.tmod (c+1) 2==0)= !!odd:=by
   have h:∀ z:Int,0<=z->(Int.tmod z 2==0)=decide (z%2=0):=fun z hz=>by rw [Int.tmod_eq_emod_of_nonneg hz];rfl
   rw [h c h0] at ho;rw [h (c+1) (by omega),←ho,←decide_not];exact decide_eq_decide.2 (by omega)
  have step:=Lz (n+r.length) l (by omega) fs fl kf m c i e _ hx h1 h1i h0 (by omega) (by omega) (by omega) hin;have IH:=ih fs fl kf (c+1) post (i+1) n hd (by omega) (by omega) ho' hkf (fun q=>(hfl q).imp id (by omega)) hd1 (by omega) (by omega) hn;rw [show n+(r.length+1)=n+r.length+1 by omega,step,IH];rw [show c+1+(k:Int)=c+((k+1:Nat):Int) by omega,show i+1+r.length=i+(r.length+1) by omega]
 |@pT key m odd d k m2 k2 e w r h1 h2 h3 _ ih1 ih2=>
  intro fs fl kf c post i n hd h0 hc ho hkf hfl hr hi h1i hn;have hk2:=h3.le;simp only [zad,zaf] at hi ⊢;have hx:l[i]? =some e:=by have:=aH hr 0;simpa using this
  have hd1:l.drop (i+1)=w++(eE m2::(r++post)):=by rw [←zal,hr];simp
  have hd2:l.drop (i+1+w.length)=eE m2::(r++post):=by rw [←zal,hd1];simp
  have hd3:l.drop (i+1+w.length+1)=r++post:=by rw [←zal,hd2];rfl
  have hx2:l[i+1+w.length]? =some (eE m2):=by have:=aH hd2 0;simpa using this
  have hin:(fl ||(kf ||(m &&(Int.tmod c 2==0))))=true->(F ||(key ||(m && !odd)))=true:=by
   rw [ho];intro hq;rcases Bool.or_eq_true _ _▸hq with q |q
   ·rcases hfl q with q |q
    ·revert q;cases F<;>cases key<;>simp
    ·omega
   ·rcases Bool.or_eq_true _ _▸q with q |q
    ·rw [hkf q];cases F<;>rfl
    ·rw [q];cases F<;>cases key<;>rfl
  have ho':(Int.tmod (c+1) 2==0)= !!odd:=by
   have h:∀ z:Int,0<=z->(Int.tmod z 2==0)=decide (z%2=0):=fun z hz=>by rw [Int.tmod_eq_emod_of_nonneg hz];rfl
   rw [h c h0] at ho;rw [h (c+1) (by omega),←ho,←decide_not];exact decide_eq_decide.2 (by omega)
  have s1:=LB (n+r.length+1+w.length) l (by omega) fs fl kf m c i m2 _ k2 e hx h1 h0 (by omega) (by omega) (by omega) hin
  have IH1:=ih1 (fs++ [(fl,(kf,(m,c+1)))]) ((F ||(key ||(m && !odd))) ||decide (k2=0)) (kf ||((m &&(Int.tmod c 2==0)) && !fl)) 0 (eE m2::(r++post)) (i+1) (n+r.length+1) (by simp;omega) (by omega) (by omega) rfl
   (fun q=>by
    rw [ho] at q;rcases Bool.or_eq_true _ _▸q with q |q
    ·rw [hkf q];rfl
    ·have q1:(m && !odd)=true:=by revert q;cases (m && !odd)<;>simp
     rw [q1];cases key<;>rfl)
   (fun q=>by
    rcases Bool.or_eq_true _ _▸q with q |q
    ·exact .inl q
    ·exact .inr (of_decide_eq_true q)) hd1 (by omega) (by omega) (by omega)
  have s3:=Hx (n+r.length) l (by omega) (fs++ [(fl,(kf,(m,c+1)))]) ((F ||(key ||(m && !odd))) ||decide (k2=0)) (kf ||((m &&(Int.tmod c 2==0)) && !fl)) m2 (0+k2) (i+1+w.length) m2 hx2 (by simp;omega) (by omega)
   (fun q=>by
    have:=(Bool.or_eq_false_iff.1 q).2;have:=of_decide_eq_false this;omega)
  have IH2:=ih2 fs fl kf (c+1) post (i+1+w.length+1) n hd (by omega) (by omega) ho' hkf (fun q=>(hfl q).imp id (by omega)) hd3 (by omega) (by omega) hn;rw [show n+(w.length+(r.length+1)+1)=n+r.length+1+w.length+1 by omega,s1,IH1,s3,IH2];rw [show c+1+(k:Int)=c+((k+1:Nat):Int) by omega,show i+1+w.length+1+r.length=i+(w.length+(r.length+1)+1) by omega]
theorem Pw (l:List cV) (hl:l.length<900000000) {F key m odd:Bool} {d k:Nat} {w:List cV} (h:tC F key m odd d k w) (hk:k=1) (hkey:key=false) (hm:m=false) (hd:d<=500) (post:List cV) (i n:Nat) (hr:l.drop i=w++post) (hi:i+w.length<=l.length) (h1i:1<=i) (hn:20000<=n):
  bA (n+w.length) l [] (i:Int)=bA n l [] ((i+w.length:Nat):Int):=by
 subst hkey hm;have wn:zap (len ([]:List mY) - 1)= -1:=rfl;have bn:au (0:Int) (-1)=false:=rfl;cases h with
 |nil=>cases hk
 |@leaf _ _ _ _ k e r h1 h3=>
  have hk0:k=0:=by omega
  subst hk0;cases h3;simp only [zad,zah] at hi ⊢;have hx:l[i]? =some e:=by have:=aH hr 0;simpa using this
  have w1:zap ((i:Int)+1)=((i+1:Nat):Int):=by rw [af]<;>omega
  have w2:zap ((i:Int) - 1)=((i - 1:Nat):Int):=by rw [af]<;>omega
  have e2:(Int.toNat ((i - 1:Nat):Int))=i - 1:=rfl;have b3:au (0:Int) ((i - 1:Nat):Int)=true:=ao (by omega);have hp:l[i - 1]? =some l[i - 1]:=zan (by omega);have tg:td e.2.2.1/\AE e.2.2.2.1:=by
   rcases h1 with ⟨k,hk,rfl⟩ |⟨s,t,a,st,xs,rfl,h1,h2,_⟩
   ·exact ⟨.inl rfl,.inr ⟨k,hk,rfl⟩⟩
   ·exact ⟨h1,h2⟩
  show bA (n+1) l [] (i:Int)=bA n l [] ((i+1:Nat):Int)
  have s8:(e.1=7∨e.1=8)->jG (bA n) [] e l (i:Int)=bA n l [] ((i+1:Nat):Int):=by
   intro hk;have k3:(e.1==3)=false/\(e.1==5)=false:=by rcases hk with h |h<;>rw [h]<;>exact ⟨rfl,rfl⟩
   unfold jG;simp only [wn,bn,zab,k3.1,k3.2,zaa,w1]
  rw [iF n l (by omega) _ i e hx tg.1 tg.2 hn];have s8':=s8 (fG h1);unfold dj;simp only [wn,bn,zab,w2,b3,zac,e2,hp,zaa,s8'];rcases h1 with ⟨k,hk,rfl⟩ |⟨s,t,a,st,xs,rfl,_,_,hs,hdd,hm⟩
  ·rfl
  ·simp only [show ((7:Int)==1)=false from rfl,show ((7:Int)==2)=false from rfl,show ((7:Int)==4)=false from rfl,show ((7:Int)==6)=false from rfl,show ((7:Int)==7)=true from rfl,zab,zac]
   rw [ma (n+1) s t a st false xs _ _ _ _ _ hs hdd hm (fun hq=>by cases hq) (by omega)];rfl
 |@pT _ _ _ d k m2 k2 e w r h1 h2 h3 h4=>
  have hk0:k=0:=by omega
  subst hk0;cases h4;have hk2:=h3.le;simp only [zad,zaf,zah] at hi ⊢;have hx:l[i]? =some e:=by have:=aH hr 0;simpa using this
  have hd1:l.drop (i+1)=w++(eE m2::post):=by rw [←zal,hr];simp
  have hd2:l.drop (i+1+w.length)=eE m2::post:=by rw [←zal,hd1];simp
  have hx2:l[i+1+w.length]? =some (eE m2):=by have:=aH hd2 0;simpa using this
  have w1:zap ((i:Int)+1)=((i+1:Nat):Int):=by rw [af]<;>omega
  have s1:bA (n+1+w.length+1) l [] (i:Int)=bA (n+1+w.length) l ([]++ [((F ||(false ||(false && !odd))) ||decide (k2=0),(false,(m2,0)))]) ((i+1:Nat):Int):=by
   obtain ⟨t,a,rfl,q1,q2⟩:=h1;rw [iF (n+1+w.length) l (by omega) _ i _ hx q1 q2 (by omega)];have rm:∀ z:mY,room ((List.length ([]:List mY)+List.length (z:: []))*17)=true:=fun z=>bQ (by simp)
   have k3:(bif (eo m2)==(3:Int) then some true else some ((eo m2)==(5:Int)))=some true:=by cases m2<;>rfl
   have k5:((eo m2)==(5:Int))=m2:=by cases m2<;>rfl
   have s9:qD (bA (n+1+w.length)) (eo m2,([],(t,(a,(0,(F ||(false ||(false && !odd))) ||decide (k2=0)))))) [] l (i:Int)=bA (n+1+w.length) l ([]++ [((F ||(false ||(false && !odd))) ||decide (k2=0),(false,(m2,0)))]) ((i+1:Nat):Int):=by
    unfold qD jG wK;simp only [J9,wn,bn,zab,zac,zaa,rm,w1];have k3':(bif (eo m2)==(3:Int) then true else (eo m2)==(5:Int))=true:=by cases m2<;>rfl
    rw [k3',k5];cases (!((F ||(false ||(false && !odd))) ||decide (k2=0)))<;>rfl
   unfold dj;simp only [wn,bn,zab,s9];cases m2<;>rfl
  have IH1:=So l hl h3 [] ((F ||(false ||(false && !odd))) ||decide (k2=0)) false 0 (eE m2::post) (i+1) (n+1) (by simp;omega) (by omega) (by omega) rfl (fun q=>by cases q)
   (fun q=>by
    rcases Bool.or_eq_true _ _▸q with q |q
    ·exact .inl q
    ·exact .inr (of_decide_eq_true q)) hd1 (by omega) (by omega) (by omega)
  have s3:=Hx n l (by omega) [] ((F ||(false ||(false && !odd))) ||decide (k2=0)) false m2 (0+k2) (i+1+w.length) m2 hx2 (by simp) hn
   (fun q=>by
    have:=(Bool.or_eq_false_iff.1 q).2;have:=of_decide_eq_false this;omega)
  rw [show n+(w.length+(0+1)+1)=n+1+w.length+1 by omega,s1,IH1,s3];rw [show i+1+w.length+1=i+(w.length+(0+1)+1) by omega]
theorem OI (l:List cV) (hl:l.length<900000000) {F b:Bool} {r:List cV} (h:sC F b r):∀ (i n:Nat),l.drop i=r->i<=l.length->(b=true->i=0)->(b=false->1<=i/\∃ x,l[i - 1]? =some x)->r.length+20001<=n->bA n l [] (i:Int)=some (.inl ((),())):=by
 induction h with
 |nil=>
  intro i n hr hi _ _ hn;obtain ⟨n,rfl⟩:∃ k,n=k+1:=⟨n - 1,by omega⟩;have hlen:l.length<=i:=by simpa using hr
  simp only [bA,aR (show len l<=(i:Int) by unfold len;omega),zab]
 |@cons b fl w r hb h2 _ ih=>
  intro i n hr hi h0 h1 hn;have hlen:l.length=i+(w.length+(r.length+1)+1):=by
   have:=congrArg List.length hr;simp at this;omega
  simp only [zad,zaf] at hn;obtain ⟨n,rfl⟩:∃ k,n=k+1+w.length+1:=⟨n - 2 - w.length,by omega⟩;have hw:1<=w.length:=h2.le;have hx:l[i]? =some (vI fl):=by have:=aH hr 0;simpa using this
  have w1:zap ((i:Int)+1)=((i+1:Nat):Int):=by rw [af]<;>omega
  have hd1:l.drop (i+1)=w++(ew::r):=by rw [←zal,hr];rfl
  have hd2:l.drop (i+1+w.length)=ew::r:=by rw [←zal,hd1];simp
  have hd3:l.drop (i+1+w.length+1)=r:=by rw [←zal,hd2];rfl
  have hx2:l[i+1+w.length]? =some ew:=by have:=aH hd2 0;simpa using this
  have wn:zap (len ([]:List mY) - 1)= -1:=rfl;have bn:au (0:Int) (-1)=false:=rfl;have c1:oQ (bA (n+1+w.length)) (vI fl) (i:Int) l []=bA (n+1+w.length) l [] ((i+1:Nat):Int):=by
   unfold oQ;have hf:(vI fl).2.2.2.2.2=fl:=rfl;rw [hf];cases fl with
   |true=>simp only [zag,zab,zaa,w1]
   |false=>
    have hb':b=true:=by rcases hb with h |h;exact h;cases h
    have hi0:=h0 hb';subst hi0;have:aX (0:Int) ((0:Nat):Int)=false:=rfl;simp only [Bool.not_false,zac,this,zab,zaa,w1]
  have s1:bA (n+1+w.length+1) l [] (i:Int)=bA (n+1+w.length) l [] ((i+1:Nat):Int):=by
   rw [iF (n+1+w.length) l (by omega) _ i _ hx (.inl rfl) (.inl rfl) (by omega)];unfold dj;simp only [wn,bn,zab,c1];rfl
  have w2:zap (((i+1+w.length:Nat):Int)+1)=((i+1+w.length+1:Nat):Int):=by rw [af]<;>omega
  have s2:=Pw l hl h2 rfl rfl rfl (by omega) (ew::r) (i+1) (n+1) hd1 (by omega) (by omega) (by omega);have s3:bA (n+1) l [] ((i+1+w.length:Nat):Int)=bA n l [] ((i+1+w.length+1:Nat):Int):=by
   rw [iF n l (by omega) _ (i+1+w.length) _ hx2 (.inl rfl) (.inl rfl) (by omega)];unfold dj;simp only [wn,bn,zab,w2];rfl
  rw [s1,s2,s3];exact ih (i+1+w.length+1) n hd3 (by omega) (fun q=>by cases q) (fun _=>⟨by omega,_,hx2⟩) (by omega)
theorem zl (n:Nat) (l:List cV) (hl:l.length<=9000000) {F:Bool} (h:sC F true l) (hn:40000000<=n):lK n l=some (true,()):=by
 have h1:=ph l (by omega) h (n+5) (by omega);obtain ⟨k,h2,h3⟩:=Da l (by omega) h (n+4) (by omega);have h4:=OI l (by omega) h 0 n rfl (by omega) (fun _=>rfl) (fun q=>by cases q) (by omega);unfold lK;rw [h1];simp only [zaa,zag,zab];rw [h2];simp only [zaa,aR h3,zab];refine (congrArg (fun z=>Option.bind z _) h4).trans ?_;rfl
set_option maxRecDepth 10000
theorem uU (n:Nat) (hn:50000000<=n) (g:ly) (o:Int×(Int×(Int×(Bool×Bool)))) (w:Sh.wf (.cons (.cy (.cons (.int .i64) (.cons .str (.cons .str (.cons (.cy (.int .i64)) .bool))))) (.cy (.int .i64))) g) (_:Sh.wf (.cons (.int .i64) (.cons (.int .i64) (.cons (.int .i64) (.cons .bool .bool)))) o):
  oB n g o=some (true,()):=by
 have hr:reachBytes<=281474976710656:=by decide
 have w1:=w.1.1;have hs:∀ x∈g.1,SB x:=fun x hx=>by
  have q:=w.1.2 x hx;exact ⟨Nat.le_trans q.2.1 hr,Nat.le_trans q.2.2.1 hr,Nat.le_trans q.2.2.2.1.1 hr⟩
 unfold oB;have ee:(g.1,g.2)=g:=rfl;rw [ee,Pd (n+8) g hs (by omega) (by omega)];simp only [zaa];cases hb:RN g with
 |true=>rfl
 |false=>
  have hg:=GB.of hb;obtain ⟨ev,e,h1,h2⟩:=Fc (n+1) g hg o (by omega);have h1':events (n+1) g (o.1,(o.2.1,(o.2.2.1,(o.2.2.2.1,o.2.2.2.2))))=some (ev,(e,())):=h1;rw [h1'];simp only [zaa,zab];rcases h2 with ⟨he,rfl⟩ |⟨rfl,hl,hd⟩
  ·have hne:(e !=(0:Int))=true:=by simp [he]
   rw [hne];rfl
  ·rw [zl n ev hl hd (by omega)]
   rfl
end Go.Proofs.YteknbnkjelmfaaaGreatDoor
namespace Go.Proofs.YteknbnkjelmfaaaGreatDoor
open Go Go.Iv Go.Gv Go.Shelf Go.Proofs
def Ey:Go.Shelf.Ren:=⟨fun |171=>80 |243=>96 |246=>108 |283=>124 |284=>125 |285=>126 |286=>127 |129=>147 |317=>146 |318=>148 |319=>149 |320=>150 |337=>166 |338=>167 |n=>n,fun |3=>3 |9=>9 |2=>2 |4=>4 |171=>135 |0=>0 |53=>128 |37=>96 |5=>5 |173=>138 |212=>150 |51=>151 |20=>20 |213=>152 |46=>123 |232=>179 |233=>180 |n=>n,fun |17=>2 |18=>3 |19=>4 |n=>n⟩
theorem Ts:Go.Proofs.LaysM.n171 Tryz.prog Ey:={
 mixed:=by kernel_rfl
 f129:=Tryz.func147.trans (congrArg some (by kernel_rfl))
 f171:=Tryz.func80.trans (congrArg some (by kernel_rfl))
 f243:=Tryz.func96.trans (congrArg some (by kernel_rfl))
 f246:=Tryz.func108.trans (congrArg some (by kernel_rfl))
 f283:=Tryz.func124.trans (congrArg some (by kernel_rfl))
 f284:=Tryz.func125.trans (congrArg some (by kernel_rfl))
 f285:=Tryz.func126.trans (congrArg some (by kernel_rfl))
 f286:=Tryz.func127.trans (congrArg some (by kernel_rfl))
 f317:=Tryz.func146.trans (congrArg some (by kernel_rfl))
 f318:=Tryz.func148.trans (congrArg some (by kernel_rfl))
 f319:=Tryz.func149.trans (congrArg some (by kernel_rfl))
 f320:=Tryz.func150.trans (congrArg some (by kernel_rfl))
 f337:=Tryz.func166.trans (congrArg some (by kernel_rfl))
 f338:=Tryz.func167.trans (congrArg some (by kernel_rfl))
 t0:=Tryz.underlying0
 a0:=Tryz.isAgg0
 z0:=Tryz.sizeOf0
 v0:=Tryz.zeroValue0
 t2:=Tryz.underlying2
 a2:=Tryz.isAgg2
 z2:=Tryz.sizeOf2
 v2:=Tryz.zeroValue2
 t3:=Tryz.underlying3
 a3:=Tryz.isAgg3
 z3:=Tryz.sizeOf3
 v3:=Tryz.zeroValue3
 t4:=Tryz.underlying4
 a4:=Tryz.isAgg4
 z4:=Tryz.sizeOf4
 v4:=Tryz.zeroValue4
 t5:=Tryz.underlying5
 a5:=Tryz.isAgg5
 z5:=Tryz.sizeOf5
 v5:=Tryz.zeroValue5
 t9:=Tryz.underlying9
 a9:=Tryz.isAgg9
 z9:=Tryz.sizeOf9
 v9:=Tryz.zeroValue9
 t20:=Tryz.underlying20
 a20:=Tryz.isAgg20
 z20:=Tryz.sizeOf20
 v20:=Tryz.zeroValue20
 t37:=Tryz.underlying96
 a37:=Tryz.isAgg96
 z37:=Tryz.sizeOf96
 v37:=Tryz.zeroValue96
 t46:=Tryz.underlying123
 a46:=Tryz.isAgg123
 z46:=Tryz.sizeOf123
 v46:=Tryz.zeroValue123
 t51:=Tryz.underlying151
 a51:=Tryz.isAgg151
 z51:=Tryz.sizeOf151
 v51:=Tryz.zeroValue151
 t53:=Tryz.underlying128
 a53:=Tryz.isAgg128
 z53:=Tryz.sizeOf128
 v53:=Tryz.zeroValue128
 t171:=Tryz.underlying135
 a171:=Tryz.isAgg135
 z171:=Tryz.sizeOf135
 v171:=Tryz.zeroValue135
 t173:=Tryz.underlying138
 a173:=Tryz.isAgg138
 z173:=Tryz.sizeOf138
 v173:=Tryz.zeroValue138
 t212:=Tryz.underlying150
 a212:=Tryz.isAgg150
 z212:=Tryz.sizeOf150
 v212:=Tryz.zeroValue150
 t213:=Tryz.underlying152
 a213:=Tryz.isAgg152
 z213:=Tryz.sizeOf152
 t232:=Tryz.underlying179
 a232:=Tryz.isAgg179
 z232:=Tryz.sizeOf179
 v232:=Tryz.zeroValue179
 t233:=Tryz.underlying180
 a233:=Tryz.isAgg180
 z233:=Tryz.sizeOf180
 v233:=Tryz.zeroValue180
 g17:=by kernel_rfl
 g18:=by kernel_rfl
 g19:=by kernel_rfl
 i0:=by kernel_rfl
 i2:=by kernel_rfl
 i3:=by kernel_rfl
 i4:=by kernel_rfl
 i5:=by kernel_rfl
 i9:=by kernel_rfl
 i20:=by kernel_rfl
 i37:=by kernel_rfl
 i46:=by kernel_rfl
 i51:=by kernel_rfl
 i53:=by kernel_rfl
 i171:=by kernel_rfl
 i173:=by kernel_rfl
 i212:=by kernel_rfl
 i232:=by kernel_rfl
 i233:=by kernel_rfl
 m17:=by kernel_rfl
 m18:=by kernel_rfl
 m19:=by kernel_rfl
}
def Hj:Go.Shelf.Ren:=⟨fun |161=>161 |231=>175 |227=>176 |233=>177 |235=>178 |228=>190 |197=>155 |151=>191 |260=>170 |152=>201 |137=>206 |119=>207 |224=>187 |225=>186 |217=>185 |266=>198 |n=>n,fun |9=>9 |4=>4 |3=>3 |5=>5 |117=>174 |116=>173 |0=>0 |124=>177 |105=>155 |21=>21 |119=>119 |46=>123 |139=>122 |138=>121 |n=>n,fun |3=>0 |4=>1 |n=>n⟩
theorem TC:Go.Proofs.Lays.n161 Tryz.prog Hj:={
 mixed:=by kernel_rfl
 f119:=Tryz.func207.trans (congrArg some (by kernel_rfl))
 f137:=Tryz.func206.trans (congrArg some (by kernel_rfl))
 f151:=Tryz.func191.trans (congrArg some (by kernel_rfl))
 f152:=Tryz.func201.trans (congrArg some (by kernel_rfl))
 f161:=Tryz.func161.trans (congrArg some (by kernel_rfl))
 f197:=Tryz.func155.trans (congrArg some (by kernel_rfl))
 f217:=Tryz.func185.trans (congrArg some (by kernel_rfl))
 f224:=Tryz.func187.trans (congrArg some (by kernel_rfl))
 f225:=Tryz.func186.trans (congrArg some (by kernel_rfl))
 f227:=Tryz.func176.trans (congrArg some (by kernel_rfl))
 f228:=Tryz.func190.trans (congrArg some (by kernel_rfl))
 f231:=Tryz.func175.trans (congrArg some (by kernel_rfl))
 f233:=Tryz.func177.trans (congrArg some (by kernel_rfl))
 f235:=Tryz.func178.trans (congrArg some (by kernel_rfl))
 f260:=Tryz.func170.trans (congrArg some (by kernel_rfl))
 f266:=Tryz.func198.trans (congrArg some (by kernel_rfl))
 t0:=Tryz.underlying0
 a0:=Tryz.isAgg0
 z0:=Tryz.sizeOf0
 v0:=Tryz.zeroValue0
 t3:=Tryz.underlying3
 a3:=Tryz.isAgg3
 z3:=Tryz.sizeOf3
 v3:=Tryz.zeroValue3
 t4:=Tryz.underlying4
 a4:=Tryz.isAgg4
 z4:=Tryz.sizeOf4
 v4:=Tryz.zeroValue4
 t5:=Tryz.underlying5
 a5:=Tryz.isAgg5
 z5:=Tryz.sizeOf5
 v5:=Tryz.zeroValue5
 t9:=Tryz.underlying9
 a9:=Tryz.isAgg9
 z9:=Tryz.sizeOf9
 v9:=Tryz.zeroValue9
 t21:=Tryz.underlying21
 a21:=Tryz.isAgg21
 z21:=Tryz.sizeOf21
 v21:=Tryz.zeroValue21
 t46:=Tryz.underlying123
 a46:=Tryz.isAgg123
 z46:=Tryz.sizeOf123
 v46:=Tryz.zeroValue123
 t105:=Tryz.underlying155
 a105:=Tryz.isAgg155
 z105:=Tryz.sizeOf155
 v105:=Tryz.zeroValue155
 t116:=Tryz.underlying173
 a116:=Tryz.isAgg173
 z116:=Tryz.sizeOf173
 t117:=Tryz.underlying174
 a117:=Tryz.isAgg174
 z117:=Tryz.sizeOf174
 v117:=Tryz.zeroValue174
 t119:=Tryz.underlying119
 a119:=Tryz.isAgg119
 z119:=Tryz.sizeOf119
 t124:=Tryz.underlying177
 a124:=Tryz.isAgg177
 z124:=Tryz.sizeOf177
 v124:=Tryz.zeroValue177
 t138:=Tryz.underlying121
 a138:=Tryz.isAgg121
 z138:=Tryz.sizeOf121
 v138:=Tryz.zeroValue121
 t139:=Tryz.underlying122
 a139:=Tryz.isAgg122
 z139:=Tryz.sizeOf122
 v139:=Tryz.zeroValue122
 g3:=by kernel_rfl
 g4:=by kernel_rfl
}
def ES:Go.Shelf.Ren:=⟨fun |196=>79 |259=>95 |n=>n,fun |9=>9 |4=>4 |3=>3 |5=>5 |12=>12 |119=>119 |0=>0 |46=>123 |139=>122 |138=>121 |53=>128 |n=>n,fun |3=>0 |4=>1 |n=>n⟩
theorem RQ:Go.Proofs.Lays.n196 Tryz.prog ES:={
 mixed:=by kernel_rfl
 f196:=Tryz.func79.trans (congrArg some (by kernel_rfl))
 f259:=Tryz.func95.trans (congrArg some (by kernel_rfl))
 t0:=Tryz.underlying0
 a0:=Tryz.isAgg0
 z0:=Tryz.sizeOf0
 v0:=Tryz.zeroValue0
 t3:=Tryz.underlying3
 a3:=Tryz.isAgg3
 z3:=Tryz.sizeOf3
 v3:=Tryz.zeroValue3
 t4:=Tryz.underlying4
 a4:=Tryz.isAgg4
 z4:=Tryz.sizeOf4
 v4:=Tryz.zeroValue4
 t5:=Tryz.underlying5
 a5:=Tryz.isAgg5
 z5:=Tryz.sizeOf5
 v5:=Tryz.zeroValue5
 t9:=Tryz.underlying9
 a9:=Tryz.isAgg9
 z9:=Tryz.sizeOf9
 v9:=Tryz.zeroValue9
 t12:=Tryz.underlying12
 a12:=Tryz.isAgg12
 z12:=Tryz.sizeOf12
 v12:=Tryz.zeroValue12
 t46:=Tryz.underlying123
 a46:=Tryz.isAgg123
 z46:=Tryz.sizeOf123
 v46:=Tryz.zeroValue123
 t53:=Tryz.underlying128
 a53:=Tryz.isAgg128
 z53:=Tryz.sizeOf128
 v53:=Tryz.zeroValue128
 t119:=Tryz.underlying119
 a119:=Tryz.isAgg119
 z119:=Tryz.sizeOf119
 t138:=Tryz.underlying121
 a138:=Tryz.isAgg121
 z138:=Tryz.sizeOf121
 v138:=Tryz.zeroValue121
 t139:=Tryz.underlying122
 a139:=Tryz.isAgg122
 z139:=Tryz.sizeOf122
 v139:=Tryz.zeroValue122
 g3:=by kernel_rfl
 g4:=by kernel_rfl
}
theorem Yu:nB Tryz.prog 0 7 0:=Nz Oj
theorem XO:nB Tryz.prog 1 80 2:=LO ⟨_,_,Tryz.func80,rfl⟩ (by kernel_rfl) fun n w h0 h1 ht=>Go.Proofs.Any.strconv_Itoa Ts n h0 h1 w ht
theorem VT:nB Tryz.prog 2 161 0:=LZ ⟨_,_,Tryz.func161,rfl⟩ fun s cutset w h1 h2=>Go.Proofs.Any.strings_TrimLeft_laid TC (by kernel_rfl) s cutset w h1 h2
theorem Xg:nB Tryz.prog 3 79 1:=JD (g1:=0) (g2:=1) (by decide) ⟨_,_,Tryz.func79,rfl⟩ fun s w h1 h2=>Go.Proofs.Any.utf8_ValidString RQ s w h1 h2
theorem Qp:jt Tryz.prog (cD hint):=Rs (show qm Tryz.prog T7 from ⟨Yu,XO,VT,Xg,trivial⟩)
end Go.Proofs.YteknbnkjelmfaaaGreatDoor
