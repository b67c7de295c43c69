/- A document of one line between brackets: what the block reader makes of it. -/
import Derived.Test.YtdelfjdjenlaiaaGreatDoorLaw
import Derived.Test.YtdelfjdjenlaiaaGreatDoorGvPlain
import Derived.Lib.ItoaLen
import Derived.Test.YtdelfjdjenlaiaaGreatDoorGvSpecX
import Derived.Test.YtdelfjdjenlaiaaGreatDoorProg
import Derived.Test.YtdelfjdjenlaiaaGreatDoorGs
import Derived.Test.YtdelfjdjenlaiaaGreatDoorAl
set_option linter.unusedSimpArgs false
set_option linter.unusedVariables false
namespace Go.Proofs.YtdelfjdjenlaiaaGreatDoor
open Go Go.Iv Go.Gv
set_option maxRecDepth 10000
noncomputable def I9 (T:List Int) (c1:Int) (out:Option xV):Option ((((gt×Bool)×Unit)×((bi×(Int×(Bool×(Int×(bv×((List (Int×d6))×Unit))))))×Unit))⊕Int):=
 match out with
 |some ev=>some (.inl ((((((0:Int),(T.length:Int)),true),()),(([((0:Int),T)],(c1,(true,(0,([],(ev,())))))),()))))
 |none=>some (.inr 8)
theorem UR (n:Nat) (T:List Int) (x:Int) (r:List Int) (out:Option xV) (hT:T.length<100000) (hd:T=91::x::r)
  (hJ:qB (n+1) ((0:Int),(0:Int)) [((0:Int),T)] (-(1:Int)) true 0 [] []=I9 T (-(1:Int)) out):Ud (n+1) 0 0 [((0:Int),T)]=some (((0:Int),false,()),()):=by
 unfold Ud;refine bS (cT rfl rfl) ?_;refine cT rfl ?_;refine cT rfl ?_;refine cT rfl ?_;refine bS (eZ _ T 0 (by omega) (by omega)) ?_;have e1:((len (T.drop 0))==(0:Int))=false:=by unfold len;rw [ie,hd];exact decide_eq_false (by simp;omega)
 refine cF e1 ?_;refine bS (v:=91) (by rw [hd];rfl) ?_;refine bS (fc _ _) ?_;refine cF (by decide) ?_;cases out with
 |some ev=>
  refine bS (hJ.trans rfl) ?_;have e2:T.drop T.length= []:=List.drop_length;refine bS (yG n T T.length (by omega) (by omega) (by rw [e2];intro c hc;cases hc)) ?_;rw [e2];refine cT rfl ?_;rfl
 |none=>
  refine bS (hJ.trans rfl) ?_;refine cT rfl ?_;rfl
noncomputable def YF (T:List Int) (out:Option xV):Option ((xV×(Int×g7))×Unit):=
 match out with
 |some ev=>some ((ev,(0:Int),(T.length:Int),(0:Int),()),())
 |none=>some (([],(0:Int),(0:Int),(8:Int),()),())
theorem IA (n:Nat) (T:List Int) (m:Int) (out:Option xV)
  (hJ:qB n ((0:Int),(0:Int)) [((0:Int),T)] m true 0 [] []=I9 T m out):Cz n 0 0 m 0 [((0:Int),T)]=YF T out:=by
 unfold Cz;refine cF rfl ?_;refine cF rfl ?_;refine cF rfl ?_;cases out with
 |some ev=>exact bS (hJ.trans rfl) rfl
 |none=>exact bS (hJ.trans rfl) rfl
theorem J8 (n:Nat) (T:List Int) (x:Int) (r:List Int) (hT:T.length<100000) (hd:T=91::x::r):vc (n+1) 0 0 [((0:Int),T)]=some (((([]:List UInt8),([]:List UInt8)),(0:Int),(0:Int),()),()):=by
 unfold vc;refine bS (cT rfl rfl) ?_;refine cT rfl ?_;refine cT rfl ?_;refine cT rfl ?_;refine bS (k8 n T 0 _ 91 (x::r) (by omega) hd (by decide) (by decide) (by decide) (by decide)) ?_;rfl
theorem Gf (n:Nat) (T:List Int) (x:Int) (r:List Int) (c:Int) (hd:T=x::r) (hx:x≠c):xI n 0 0 c [((0:Int),T)]=some ((false,()),()):=by
 unfold xI;subst hd;refine cT rfl ?_;refine bS (v:=(0,x::r)) rfl ?_;refine cT rfl ?_;refine cT (show aR (0:Int) (len (x::r))=true from bD (by unfold len;simp)) ?_;refine cT rfl ?_;refine bS (v:=x) rfl ?_;refine cF (by rw [ie];exact decide_eq_false hx) ?_;rfl
theorem Sk (n:Nat) (T:List Int) (x:Int) (r:List Int) (out:Option xV) (hT:T.length<100000) (hd:T=91::x::r)
  (hJ:qB (n+1) ((0:Int),(0:Int)) [((0:Int),T)] (-(1:Int)) true 0 [] []=I9 T (-(1:Int)) out):K3 (n+1) 0 0 [((0:Int),T)] [((0:Int),T)]=some ((false,()),()):=by
 unfold K3;refine bS (Gf _ T 91 (x::r) 63 hd (by decide)) ?_;refine cF rfl ?_;refine bS (UR n T x r out hT hd hJ) ?_;rfl
def Pq (l:List Int):Prop:=∀ c,l.head? =some c->Ol c=false/\c≠35
theorem Ie (L:List i6) (t1 t10:Int) (tl:List Int) (ht:Pq tl):∀ (b n k:Nat),b+1<=n->k+b<1000000->
  rN n t1 (k:Int) (List.replicate b 32++tl) t10 L=some (((),(t1,(((k+b:Nat):Int),(tl,(t10,()))))),((L,((),((),((),())))),())):=by
 intro b
 induction b with
 |zero=>
  intro n k hn hk;obtain ⟨m,rfl⟩:∃ m,n=m+1:=⟨n - 1,by omega⟩;rw [rN];cases tl with
  |nil=>exact cF rfl rfl
  |cons x r=>
   refine cT (show aR (0:Int) (len (x::r))=true from bD (by unfold len;simp)) ?_;refine bS (v:=x) rfl ?_;refine bS (fc _ _) ?_;exact cF (ht x rfl).1 rfl
 |succ b ih=>
  intro n k hn hk;obtain ⟨m,rfl⟩:∃ m,n=m+1:=⟨n - 1,by omega⟩;rw [rN,List.replicate_succ];refine cT (show aR (0:Int) (len (32::(List.replicate b 32++tl)))=true from bD (by unfold len;simp;omega)) ?_;refine bS (v:=32) rfl ?_;refine bS (fc _ _) ?_;refine cT rfl ?_;refine cT (show aQ (1:Int) (len (32::(List.replicate b 32++tl)))=true from bV (by unfold len;simp;omega)) ?_;have e0:zal ((k:Int)+1)=((k+1:Nat):Int):=by rw [bw]<;>omega
  have e1:List.take ((List.length (32::List.replicate b 32++tl)) - 1) (List.drop 1 (32::List.replicate b 32++tl))=List.replicate b 32++tl:=by
   simp;rw [List.take_of_length_le (by simp)]
  rw [e0,e1];refine (ih m (k+1) (by omega) (by omega)).trans ?_;rw [show k+1+b=k+(b+1) by omega]
theorem fh (n:Nat) (T:List Int) (k b:Nat) (tl:List Int) (ht:Pq tl) (hT:T.length<100000) (hk:k<=T.length) (hd:T.drop k=List.replicate b 32++tl) (hn:b+1<=n):
  qu n 0 (k:Int) [((0:Int),T)]=some ((tl,((k+b:Nat):Int),()),()):=by
 have hb:k+b<=T.length:=by have:=congrArg List.length hd;simp at this;omega
 unfold qu;refine cT rfl ?_;refine bS (v:=(0,T)) rfl ?_;have e1:(bif (aR (k:Int) 0) then (0:Int) else (k:Int))=(k:Int):=by rw [bC (by omega)];rfl
 have e2:zal ((k:Int) - 0)=(k:Int):=by rw [bw]<;>omega
 have e3:(bif (aR (len T) (k:Int)) then (len T) else (k:Int))=(k:Int):=by rw [bC (by unfold len;omega)];rfl
 show (cond _ _ _)=_
 simp only [e1,e2,e3];refine cT (by rw [bV (by omega),bV (by unfold len;omega)];rfl) ?_;have e4:List.take (T.length - (Int.toNat (k:Int))) (List.drop (Int.toNat (k:Int)) T)=List.replicate b 32++tl:=by
  rw [←hd,show Int.toNat (k:Int)=k from rfl,List.take_of_length_le (by simp)]
 rw [e4];refine bS (Ie _ _ _ tl ht b n k (by omega) (by omega)) ?_;cases tl with
 |nil=>exact cF rfl rfl
 |cons x r=>
  refine cT (show aR (0:Int) (len (x::r))=true from bD (by unfold len;simp)) ?_;refine bS (v:=x) rfl ?_;refine cF (show (x==(35:Int))=false by rw [ie];exact decide_eq_false (ht x rfl).2) ?_;rfl
theorem n7 (n:Nat) (T:List Int) (k:Nat) (r:List Int) (hT:T.length<100000) (hd:T.drop k=45::32::r):xI n 0 (k:Int) 45 [((0:Int),T)]=some ((true,()),()):=by
 have hk:k+2+r.length=T.length:=by have:=congrArg List.length hd;simp at this;omega
 have e2:zal ((k:Int) - 0)=(k:Int):=by rw [bw]<;>omega
 have e3:zal ((k:Int)+1)=((k+1:Nat):Int):=by rw [bw]<;>omega
 have g0:T[k]? =some 45:=by have:=K9 hd 0;simpa using this
 have g1:T[k+1]? =some 32:=by have:=K9 hd 1;simpa using this
 unfold xI;refine cT rfl ?_;refine bS (v:=(0,T)) rfl ?_
 show (cond _ _ _)=_
 simp only [e2,e3];refine cT (bV (by omega)) ?_;refine cT (bD (by unfold len;omega)) ?_;refine cT (bV (by omega)) ?_;refine bS (v:=45) g0 ?_;refine cT rfl ?_;refine cF (by rw [ie];exact decide_eq_false (by unfold len;omega)) ?_;refine cT (bV (by omega)) ?_;refine bS (v:=32) g1 ?_;refine bS (fc _ _) ?_;rfl
theorem oz (n:Nat) (T:List Int):zW (n+1) 1 [((0:Int),T)]=some (.inl ((1,false,()),())):=by
 unfold zW;refine bS (v:=(((),((1:Int),())),(([((0:Int),T)],((),((),((),())))),()))) ?_ ?_
 ·rw [HV]
  exact cF rfl rfl
 ·exact cT rfl rfl
theorem zG (n:Nat) (T:List Int) (c:Int):qx (n+1) 1 c [((0:Int),T)]=some (.inl ((1,false,()),())):=by
 unfold qx;refine bS (oz n T) ?_;exact cT rfl rfl
theorem GY (n:Nat) (T:List Int) (hT:T.length<100000):u9 (n+1) 0 (T.length:Int) [((0:Int),T)]=some (.inl ((1,()),())):=by
 unfold u9;refine bS (fh (n+1) T T.length 0 [] (by intro c hc;cases hc) hT (zai _) (by simp) (by omega)) ?_;exact cF rfl rfl
abbrev zp:=Option ((dg×((bi×(Unit×(bv×((List (Int×d6))×Unit))))×((bi×Unit)×Unit)))⊕Int)
def Zt (T:List Int) (ops:List Int) (ev:xV):zp:=some (.inl ((1,()),(([((0:Int),T)],((),(ops,(ev,())))),(([((0:Int),T)],()),()))))
def Mk (T:List Int):Option xV->zp
 |some ev=>Zt T [] ev
 |none=>some (.inr 8)
theorem Ji (m:Nat) (T:List Int) (x:Int) (r:List Int) (w:Int) (out:Option xV) (hT:T.length<100000) (hd:T=91::x::r)
  (ho:∀ ev,out=some ev->ev.length<10000/\∃ e rr,ev=e::rr/\e.1=3)
  (hJ:qB (m+3) ((0:Int),(0:Int)) [((0:Int),T)] w true 0 [] []=I9 T w out):Ey (m+3) 0 0 w ([],[]) [((0:Int),T)] [] [] [((0:Int),T)]=Mk T out:=by
 have hr2:qu (m+5) 0 0 [((0:Int),T)]=some ((T,(0:Int),()),()):=fh (m+5) T 0 0 T (by rw [hd];intro c hc;cases hc;exact ⟨by decide,by decide⟩) hT (by omega) (by simp) (by omega);have g0:T[0]? =some 91:=by rw [hd];rfl
 have hF:=IA (m+3) T w out hJ;unfold Ey;refine bS hr2 ?_;refine bS (v:=false) (bS (v:=91) g0 (cF rfl (bS (v:=91) g0 rfl))) ?_;refine cF rfl ?_;cases out with
 |none=>exact bS hF (cT rfl rfl)
 |some ev=>
  obtain ⟨he,e,rr,hev,hk⟩:=ho ev rfl;refine bS hF ?_;refine cF rfl ?_;refine bS (v:=e) (by show ev[0]? =_;rw [hev];rfl) ?_;refine cT (show (e.1 !=8)=true by rw [hk];rfl) ?_;refine cF rfl ?_;refine cT (show room ((0+ev.length)*73)=true from cr (by omega)) ?_;exact bS (GY (m+3) T hT) rfl
theorem IQ (d n:Nat) (T:List Int) (x:Int) (r:List Int) (w:Int) (pr:Bool) (out:Option xV) (hT:T.length<100000) (hd:T=91::x::r)
  (ho:∀ ev,out=some ev->ev.length<10000/\∃ e rr,ev=e::rr/\e.1=3)
  (hJ:∀ q,n<=q+8->∀ m,qB q ((0:Int),(0:Int)) [((0:Int),T)] m true 0 [] []=I9 T m out) (hn:20<=n):
  fB (d+1) n 0 0 (w,(true,pr)) ([],[]) [((0:Int),T)] [] [] [((0:Int),T)]=Mk T out:=by
 obtain ⟨m,rfl⟩:∃ m,n=m+8:=⟨n - 8,by omega⟩;have hr:qu (m+6) 0 0 [((0:Int),T)]=some ((T,(0:Int),()),()):=fh (m+6) T 0 0 T (by rw [hd];intro c hc;cases hc;exact ⟨by decide,by decide⟩) hT (by omega) (by simp) (by omega);have e1:aR (0:Int) (len T)=true:=by rw [hd];exact bD (by unfold len;simp;omega)
 have hl:=Ji m T x r w out hT hd ho (hJ (m+3) (by omega) w);rw [fB];refine cT (by simp) ?_;rw [show m+8 - 7=m+1 from rfl];unfold mW;have hL:∀ R,(∀ y,Ey (m+3) 0 0 w ([],[]) [((0:Int),T)] [] [] [((0:Int),T)]=some y->some (match y with
   | .inl y=> .inr ((y.1.1,()),((y.2.1.1,((),(y.2.1.2.2.1,(y.2.1.2.2.2.1,())))),((y.2.2.1.1,()),((w,(true,(pr,()))),(([],([],())),())))))
   | .inr e=> .inl ((e,()),()))=R)->mb (fB d) (m+1) 0 0 [((0:Int),T)] [] [] [((0:Int),T)] w true pr [] []=R:=by
  intro R hR;rw [mb];refine bS hr ?_;refine cT e1 ?_;refine bS (Gf _ T 91 (x::r) 45 hd (by decide)) ?_;refine cF rfl ?_;refine bS (Sk _ T x r out hT hd (hJ (m+4) (by omega) _)) ?_;refine cF rfl ?_;refine bS (J8 _ T x r hT hd) ?_;refine cF rfl ?_;refine cT rfl ?_;refine cT rfl ?_;refine cT rfl ?_;refine cT rfl ?_;refine bS hr ?_;refine cT e1 ?_;cases out with
  |none=>exact bS hl (hR _ hl)
  |some ev=>exact bS hl (hR _ hl)
 cases out with
 |none=>exact bS (hL _ fun y hy=>by cases hl.symm.trans hy;rfl) rfl
 |some ev=>exact bS (hL _ fun y hy=>by cases hl.symm.trans hy;rfl) rfl
def uP:Nat->List Int
 |0=> []
 |j+1=>45::32::uP j
theorem CO (j:Nat):(uP j).length=2*j:=by
 induction j with
 |zero=>rfl
 |succ j ih=>simp [uP,ih];omega
theorem qI (j:Nat):Pq (uP j):=by
 cases j with
 |zero=>intro c hc;cases hc
 |succ j=>intro c hc;cases hc;exact ⟨by decide,by decide⟩
def Zl:Int×d6:=(7,([],([],([],(1,false)))))
def sB:Int×d6:=(3,([],([],([],(0,false)))))
def bE (j:Nat):xV:=List.replicate j sB++Zl::List.replicate j sE
theorem Uh (j:Nat) (ev:xV):(ev++ [sB])++bE j++ [sE]=ev++bE (j+1):=by
 unfold bE;rw [List.replicate_succ' (n:=j) (a:=sE),List.replicate_succ (n:=j) (a:=sB)];simp
def Pb (T:List Int) (ops:List Int) (ev:xV) (j:Nat):zp:=if ops.length+j<=200 then Zt T ops (ev++bE j) else some (.inr 8)
theorem ZE (T:List Int) (hT:T.length<100000):∀ (j d n c b:Nat) (w:Int) (pr:Bool) (ops:List Int) (ev:xV),T.drop c=List.replicate b 32++uP j->b<=1->c<=T.length->ops.length<=200->ev.length+2*j+2<10000->j+1<=d->2*j+20<=n->
  fB d n 0 (c:Int) (w,(true,pr)) ([],[]) [((0:Int),T)] ops ev [((0:Int),T)]=Pb T ops ev j:=by
 intro j
 induction j with
 |zero=>
  intro d n c b w pr ops ev hd hb hc ho he hdd hn;obtain ⟨d,rfl⟩:∃ q,d=q+1:=⟨d - 1,by omega⟩;obtain ⟨m,rfl⟩:∃ m,n=m+8:=⟨n - 8,by omega⟩;rw [fB];refine cT (by simp) ?_;rw [show m+8 - 7=m+1 from rfl];unfold mW Pb;rw [if_pos (by omega)];refine bS (v:= .inr ((1,()),(([((0:Int),T)],((),(ops,(ev++ [Zl],())))),(([((0:Int),T)],()),((w,(true,(pr,()))),(([],([],())),())))))) ?_ rfl;rw [mb];refine bS (fh _ T c b (uP 0) (qI 0) hT hc hd (by omega)) ?_;refine cF rfl ?_;refine bS (oz (m+4) T) ?_;refine cT rfl ?_;refine cT (oJ ev (by omega) _) ?_;rfl
 |succ j ih=>
  intro d n c b w pr ops ev hd hb hc ho he hdd hn;obtain ⟨d,rfl⟩:∃ q,d=q+1:=⟨d - 1,by omega⟩;obtain ⟨m,rfl⟩:∃ m,n=m+8:=⟨n - 8,by omega⟩;have hl:c+b+2*(j+1)=T.length:=by have:=congrArg List.length hd;rw [zaf,CO] at this;simp at this;omega
  have hd1:T.drop (c+b)=45::32::uP j:=by rw [←zah,hd];simp [uP]
  have hd2:T.drop (c+b+1)=List.replicate 1 32++uP j:=by rw [←zah,hd1];rfl
  have e1:aR (0:Int) (len (uP (j+1)))=true:=bD (by unfold len;simp [uP];omega);have e2:zal (((c+b:Nat):Int)+1)=((c+b+1:Nat):Int):=by rw [bw]<;>omega
  have hi:=ih d (m+6) (c+b+1) 1 ((c+b:Nat):Int) false (ops++ [3]) (ev++ [sB]) hd2 (by omega) (by omega);rw [fB];refine cT (by simp) ?_;rw [show m+8 - 7=m+1 from rfl];unfold mW;by_cases h1:ops.length=200
  ·unfold Pb
   rw [if_neg (by omega)];refine bS (v:= .inl ((8,()),())) ?_ rfl;rw [mb];refine bS (fh _ T c b (uP (j+1)) (qI _) hT hc hd (by omega)) ?_;refine cT e1 ?_;refine bS (n7 _ T (c+b) _ hT hd1) ?_;refine cT rfl ?_;refine cF rfl ?_;refine cT (bV (by unfold len;omega)) ?_;rfl
  ·have hi:=hi (by simp;omega) (by simp;omega) (by omega) (by omega)
   unfold Pb at hi ⊢;have hlen:(ops++ [(3:Int)]).length=ops.length+1:=by simp
   by_cases h2:ops.length+(j+1)<=200
   ·rw [if_pos (by rw [hlen];omega)] at hi;rw [if_pos h2]
    refine bS (v:= .inr ((1,()),(([((0:Int),T)],((),(ops,(ev++bE (j+1),())))),(([((0:Int),T)],()),((w,(true,(pr,()))),(([],([],())),())))))) ?_ rfl;rw [mb];refine bS (fh _ T c b (uP (j+1)) (qI _) hT hc hd (by omega)) ?_;refine cT e1 ?_;refine bS (n7 _ T (c+b) _ hT hd1) ?_;refine cT rfl ?_;refine cF rfl ?_;refine cF (jL (by unfold len;omega)) ?_;refine cT (oJ ev (by omega) _) ?_;refine cT (cr (by simp;omega)) ?_;refine bS (v:= .inl (((),(1,())),(([((0:Int),T)],((),(ops++ [3],(ev++ [sB]++bE j,())))),(([((0:Int),T)],()),())))) ?_ ?_
    ·rw [CX]
     refine bS (by rw [e2];exact hi.trans rfl) ?_;refine bS (zG _ T _) ?_;refine cT rfl ?_;rfl
    ·refine cT (oJ (ev++ [sB]++bE j) (by simp [bE];omega) _) ?_
     refine cT (by
      have:zal ((len (ops++ [3])) - (1:Int))=(ops.length:Int):=by
       unfold len;simp;rw [bw]<;>omega
      show ((aQ (0:Int) (zal ((len (ops++ [3])) - (1:Int)))) &&(aQ (zal ((len (ops++ [3])) - (1:Int))) (len (ops++ [3]))))=true
      rw [this,bV (by omega),bV (by unfold len;simp;omega)];rfl) ?_
     have e3:=XW ops 3 (by omega);have e4:=Uh j ev
     show some (Sum.inr ((1,()),(([((0:Int),T)],((),(List.take ((Int.toNat (zal ((len (ops++3:: [])) - (1:Int)))) - 0) (List.drop 0 (ops++3:: [])),(ev++ [sB]++bE j++ [sE],())))),(([((0:Int),T)],()),((w,(true,(pr,()))),(([],([],())),()))))))=_
     rw [e3,e4]
   ·rw [if_neg (by rw [hlen];omega)] at hi;rw [if_neg h2]
    refine bS (v:= .inl ((8,()),())) ?_ rfl;rw [mb];refine bS (fh _ T c b (uP (j+1)) (qI _) hT hc hd (by omega)) ?_;refine cT e1 ?_;refine bS (n7 _ T (c+b) _ hT hd1) ?_;refine cT rfl ?_;refine cF rfl ?_;refine cF (jL (by unfold len;omega)) ?_;refine cT (oJ ev (by omega) _) ?_;refine cT (cr (by simp;omega)) ?_;refine bS (v:= .inr ((8,()),())) ?_ rfl;rw [CX];refine bS (by rw [e2];exact hi) ?_;rfl
set_option maxRecDepth 10000
abbrev Ev:=Int×d6
abbrev sH:=Int×g8
def dB (f:Bool):Ev:=(1,([],([],([],(0,f)))))
def dE (f:Bool):Ev:=(2,([],([],([],(0,f)))))
def oN (f:Bool):Ev:=(3,([],([],([],(0,f)))))
def cN:Ev:=(4,([],([],([],(0,false)))))
def sN (p:List UInt8):Ev:=(7,(p,([],([],(1,false)))))
def body (j m:Nat) (f:Bool) (p:List UInt8):List Ev:=List.replicate j (oN f)++(List.replicate m (sN p)++List.replicate j cN)
def qQ (f1 f2:Bool) (j m:Nat) (f:Bool) (p:List UInt8):List Ev:=dB f1::(body j m f p++ [dE f2])
theorem pe (f1 f2:Bool) (j m:Nat) (f:Bool) (p:List UInt8):(qQ f1 f2 j m f p).length=2*j+m+2:=by simp [qQ,body];omega
theorem AB (i:Nat) (h:i<1000000000):zal ((i:Int)+1)=((i+1:Nat):Int):=by rw [bw]<;>omega
theorem dn {α:Type} (l:List α) (i:Nat) (h:i<l.length):aR (i:Int) (len l)=true:=bD (by unfold len;omega)
theorem UI {α:Type} (l:List α) (i:Nat) (h:l.length<=i):aR (i:Int) (len l)=false:=bC (by unfold len;omega)
theorem nn (i:Nat):aQ (0:Int) (i:Int)=true:=bV (by omega)
theorem drop_at {α:Type} {l r:List α} {e:α} {i:Nat} (h:l.drop i=e::r):l[i]? =some e/\l.drop (i+1)=r/\i<l.length:=by
 refine ⟨?_,?_,?_⟩
 ·have:=congrArg (·[0]?) h;simpa using this
 ·rw [←zah,h];rfl
 ·have:=congrArg List.length h;simp at this;omega
theorem TB (n:Nat) (f:Bool):jz n (dB f)=some (true,()):=by cases f<;>rfl
theorem SX (n:Nat) (f:Bool):jz n (dE f)=some (true,()):=by cases f<;>rfl
theorem TQ (n:Nat) (f:Bool):jz n (oN f)=some (true,()):=by cases f<;>rfl
theorem Td (n:Nat):jz n cN=some (true,()):=rfl
theorem Um (n:Nat) (p:List UInt8):jz n (sN p)=some (true,()):=by
 unfold jz sN;simp;rfl
theorem Re (f1 f2:Bool) (j m:Nat) (f:Bool) (p:List UInt8):∀ x∈qQ f1 f2 j m f p,∀ n,jz n x=some (true,()):=by
 intro x hx n;simp only [qQ,body,List.mem_cons,List.mem_append,List.mem_replicate,List.not_mem_nil,or_false] at hx;rcases hx with rfl |((⟨_,rfl⟩ |⟨_,rfl⟩ |⟨_,rfl⟩) |rfl)
 ·exact TB n f1
 ·exact TQ n f
 ·exact Um n p
 ·exact Td n
 ·exact SX n f2
theorem JM (t0 l:List Ev) (hl:l.length<1000000) (hb:∀ x∈l,∀ n,jz n x=some (true,())):∀ (k n i:Nat),i+k=l.length->k<n->Bk n t0 l (len l) (i:Int)=some ((t0,()),()):=by
 intro k
 induction k with
 |zero=>
  intro n i hi hn;obtain ⟨m,rfl⟩:∃ m,n=m+1:=⟨n - 1,by omega⟩;rw [Bk];exact cF (UI l i (by omega)) rfl
 |succ k ih=>
  intro n i hi hn;obtain ⟨m,rfl⟩:∃ m,n=m+1:=⟨n - 1,by omega⟩;have hg:l[i]? =some l[i]:=zaj (by omega);rw [Bk];refine cT (dn l i (by omega)) ?_;refine cT (nn i) ?_;refine bS (v:=l[i]) hg ?_;refine bS (hb _ (List.getElem_mem _) _) ?_;refine cF rfl ?_;rw [AB i (by omega)];exact ih m (i+1) (by omega) (by omega)
theorem E1 (l:List Ev) (t1:Int) (f:Bool) (rest:List Ev) (hl:l.length<10000):∀ (k m i q:Nat) (r:_),l.drop i=List.replicate k (oN f)++rest->q+k<10000->eL m l t1 (List.replicate (q+k) (3,0)) ((i+k:Nat):Int)=r->eL (m+k) l t1 (List.replicate q (3,0)) (i:Int)=r:=by
 intro k
 induction k with
 |zero=>intro m i q r _ _ h;exact h
 |succ k ih=>
  intro m i q r hd hq h;have hd':l.drop i=oN f::(List.replicate k (oN f)++rest):=by rw [hd,List.replicate_succ];rfl
  obtain ⟨h1,h2,h3⟩:=drop_at hd';rw [show m+(k+1)=(m+k)+1 by omega,eL];refine cT (dn l i h3) ?_;refine cT (nn i) ?_;refine bS (v:=oN f) h1 ?_;refine bS (v:=true) rfl ?_;refine cT rfl ?_;refine cT (cr (by simp;omega)) ?_;rw [AB i (by omega)];have e:List.replicate q ((3:Int),(0:Int))++((oN f).1,(0:Int)):: []=List.replicate (q+1) (3,0):=by rw [List.replicate_succ'];rfl
  rw [e];refine ih m (i+1) (q+1) r h2 (by omega) ?_;rw [show q+1+k=q+(k+1) by omega,show i+1+k=i+(k+1) by omega];exact h
theorem tj {α:Type} (s:List α) (x:α) (h:s.length<100000):zal ((len (s++x:: [])) - (1:Int))=(s.length:Int):=by
 unfold len;simp;rw [bw]<;>omega
theorem oh {α:Type} (s:List α) (x:α) (h:s.length<100000):((aQ (0:Int) (zal ((len (s++x:: [])) - (1:Int)))) &&(aR (zal ((len (s++x:: [])) - (1:Int))) (len (s++x:: []))))=true:=by
 rw [tj s x h,bV (by omega),bD (by unfold len;simp;omega)];rfl
theorem Ir {α:Type} (s:List α) (x:α) (h:s.length<100000):((aQ (0:Int) (zal ((len (s++x:: [])) - (1:Int)))) &&(aQ (zal ((len (s++x:: [])) - (1:Int))) (len (s++x:: []))))=true:=by
 rw [tj s x h,bV (by omega),bV (by unfold len;simp;omega)];rfl
theorem kM {α:Type} (s:List α) (x:α) (h:s.length<100000):(s++x:: [])[(Int.toNat (zal ((len (s++x:: [])) - (1:Int))))]? =some x:=by
 rw [tj s x h];simp
theorem Ui {α:Type} (s:List α) (x y:α) (h:s.length<100000):List.set (s++x:: []) (Int.toNat (zal ((len (s++x:: [])) - (1:Int)))) y=s++y:: []:=by
 rw [tj s x h];simp
theorem E2 (l:List Ev) (t1:Int) (p:List UInt8) (rest:List Ev) (hl:l.length<10000) (q:Nat) (hq:q<10000):∀ (k m i c:Nat) (r:_),l.drop i=List.replicate k (sN p)++rest->c+k<10000->eL m l t1 (List.replicate q (3,0)++(3,((c+k:Nat):Int)):: []) ((i+k:Nat):Int)=r->eL (m+k) l t1 (List.replicate q (3,0)++(3,(c:Int)):: []) (i:Int)=r:=by
 intro k
 induction k with
 |zero=>intro m i c r _ _ h;exact h
 |succ k ih=>
  intro m i c r hd hc h;have hd':l.drop i=sN p::(List.replicate k (sN p)++rest):=by rw [hd,List.replicate_succ];rfl
  obtain ⟨h1,h2,h3⟩:=drop_at hd';have hs:(List.replicate q ((3:Int),(0:Int))).length<100000:=by simp;omega
  rw [show m+(k+1)=(m+k)+1 by omega,eL];refine cT (dn l i h3) ?_;refine cT (nn i) ?_;refine bS (v:=sN p) h1 ?_;refine bS (v:=false) rfl ?_;refine cF rfl ?_;refine bS (v:=true) rfl ?_;refine cT rfl ?_;refine cT (oh _ _ hs) ?_;refine bS (kM _ _ hs) ?_;refine cT (oh _ _ hs) ?_;refine bS (kM _ _ hs) ?_;rw [Ui _ _ _ hs,AB i (by omega)]
  show eL (m+k) l t1 (List.replicate q (3,0)++(3,zal ((c:Int)+1)):: []) ((i+1:Nat):Int)=r
  rw [AB c (by omega)];refine ih m (i+1) (c+1) r h2 (by omega) ?_;rw [show c+1+k=c+(k+1) by omega,show i+1+k=i+(k+1) by omega];exact h
theorem E3 (l:List Ev) (t1:Int) (rest:List Ev) (hl:l.length<10000):∀ (q n i c:Nat),l.drop i=List.replicate (q+1) cN++rest->q<n->q<10000->c<100000->eL n l t1 (List.replicate q (3,0)++(3,(c:Int)):: []) (i:Int)=some ((((i+q+1:Nat):Int),()),()):=by
 intro q
 induction q with
 |zero=>
  intro n i c hd hn hq hc;obtain ⟨m,rfl⟩:∃ m,n=m+1:=⟨n - 1,by omega⟩;have hd':l.drop i=cN::rest:=hd;obtain ⟨h1,h2,h3⟩:=drop_at hd';have hs:(List.replicate 0 ((3:Int),(0:Int))).length<100000:=by simp
  rw [eL];refine cT (dn l i h3) ?_;refine cT (nn i) ?_;refine bS (v:=cN) h1 ?_;refine bS (v:=false) rfl ?_;refine cF rfl ?_;refine bS (v:=false) rfl ?_;refine cF rfl ?_;refine cT (oh _ _ hs) ?_;refine bS (kM _ _ hs) ?_;refine bS (v:=true) rfl ?_;refine cF rfl ?_;refine cT (Ir _ _ hs) ?_;refine cT (by rw [tj _ _ hs];rfl) ?_;rw [AB i (by omega)]
 |succ q ih=>
  intro n i c hd hn hq hc;obtain ⟨m,rfl⟩:∃ m,n=m+1:=⟨n - 1,by omega⟩;have hd':l.drop i=cN::(List.replicate (q+1) cN++rest):=by rw [hd,List.replicate_succ (n:=q+1)];rfl
  obtain ⟨h1,h2,h3⟩:=drop_at hd';have hs:(List.replicate (q+1) ((3:Int),(0:Int))).length<100000:=by simp;omega
  have ht:Int.toNat (zal ((len (List.replicate (q+1) ((3:Int),(0:Int))++(3,(c:Int)):: [])) - (1:Int)))=q+1:=by rw [tj _ _ hs];simp
  have hw:zal ((((q+1 - 0:Nat):Int)) - (1:Int))=(q:Int):=by rw [bw]<;>omega
  have hg:(List.replicate (q+1) ((3:Int),(0:Int))++(3,(c:Int)):: [])[0+(Int.toNat (q:Int))]? =some (3,0):=by
   rw [show 0+(Int.toNat (q:Int))=q by simp,List.getElem?_append_left (by simp),List.getElem?_replicate,if_pos (by omega)]
  have hset:List.take (q+1 - 0) (List.drop 0 (List.set (List.replicate (q+1) ((3:Int),(0:Int))++(3,(c:Int)):: []) (0+Int.toNat (q:Int)) (3,((1:Nat):Int))))=List.replicate q (3,0)++(3,((1:Nat):Int)):: []:=by
   rw [show 0+(Int.toNat (q:Int))=q by simp,List.replicate_succ',List.drop_zero,List.append_assoc,List.set_append,if_neg (by simp)];simp [List.take_append]
  rw [eL];refine cT (dn l i h3) ?_;refine cT (nn i) ?_;refine bS (v:=cN) h1 ?_;refine bS (v:=false) rfl ?_;refine cF rfl ?_;refine bS (v:=false) rfl ?_;refine cF rfl ?_;refine cT (oh _ _ hs) ?_;refine bS (kM _ _ hs) ?_;refine bS (v:=true) rfl ?_;refine cF rfl ?_;refine cT (Ir _ _ hs) ?_;rw [ht,hw];refine cF (by rw [Bool.eq_false_iff];intro h;have:=eq_of_beq h;omega) ?_;refine cT (by rw [nn,bD (by omega)];rfl) ?_;refine bS hg ?_;refine cT (by rw [nn,bD (by omega)];rfl) ?_;refine bS hg ?_;rw [AB i (by omega)];have e1:zal ((0:Int)+1)=((1:Nat):Int):=by rw [bw]<;>omega
  show eL m l t1 (List.take (q+1 - 0) (List.drop 0 (List.set (List.replicate (q+1) ((3:Int),(0:Int))++(3,(c:Int)):: []) (0+Int.toNat (q:Int)) (3,zal ((0:Int)+1))))) ((i+1:Nat):Int)=_
  rw [e1,hset,ih m (i+1) 1 h2 (by omega) (by omega) (by omega),show i+1+q+1=i+(q+1)+1 by omega]
theorem nh (f1 f2:Bool) (j m:Nat) (f:Bool) (p:List UInt8):(qQ f1 f2 j m f p).drop 1=List.replicate j (oN f)++(List.replicate m (sN p)++(List.replicate j cN++ [dE f2])):=by
 simp [qQ,body]
theorem JA (f1 f2:Bool) (j m:Nat) (f:Bool) (p:List UInt8) (hj:j<300) (hm:m<300) (n:Nat) (hn:2000<=n):Kf n (qQ f1 f2 (j+1) m f p) 1=some (((2*j+m+3:Nat):Int),()):=by
 have hl:=pe f1 f2 (j+1) m f p;have h0:=nh f1 f2 (j+1) m f p;obtain ⟨h1,_,h3⟩:=drop_at (show (qQ f1 f2 (j+1) m f p).drop 1=oN f::(List.replicate j (oN f)++(List.replicate m (sN p)++(List.replicate (j+1) cN++ [dE f2]))) by rw [h0,List.replicate_succ (n:=j) (a:=oN f)];rfl);unfold Kf;refine bS (v:=false) (cF rfl (by rw [jL (by unfold len;omega)])) ?_;refine cF rfl ?_;refine cT rfl ?_;refine bS (v:=oN f) h1 ?_;refine bS (v:=false) rfl ?_;refine cF rfl ?_;refine bS (v:=true) rfl ?_;refine cF rfl ?_;refine bS (v:=((((2*j+m+3:Nat):Int),()),())) ?_ rfl;obtain ⟨k,rfl⟩:∃ k,n=k+m+(j+1):=⟨n - m - (j+1),by omega⟩;refine E1 _ _ f _ (by omega) (j+1) (k+m) 1 0 _ h0 (by omega) ?_;have h2:(qQ f1 f2 (j+1) m f p).drop (1+(j+1))=List.replicate m (sN p)++(List.replicate (j+1) cN++ [dE f2]):=by
  rw [←zah,h0,List.drop_left' (by simp)]
 have h4:(qQ f1 f2 (j+1) m f p).drop (1+(j+1)+m)=List.replicate (j+1) cN++ [dE f2]:=by
  rw [←zah,h2,List.drop_left' (by simp)]
 rw [Nat.zero_add,List.replicate_succ' (n:=j)];refine E2 _ _ p _ (by omega) j (by omega) m k (1+(j+1)) 0 _ h2 (by omega) ?_;rw [E3 _ _ _ (by omega) j k (1+(j+1)+m) (0+m) h4 (by omega) (by omega) (by omega)];rw [show 1+(j+1)+m+j+1=2*j+m+3 by omega]
theorem o5 (f1 f2:Bool) (j m:Nat) (f:Bool) (p:List UInt8) (hj:j<300) (hm:m<300) (n:Nat) (hn:3000<=n):vg n (qQ f1 f2 (j+1) m f p)=some (true,()):=by
 have hl:=pe f1 f2 (j+1) m f p;obtain ⟨k,rfl⟩:∃ k,n=k+2:=⟨n - 2,by omega⟩;have h0:=nh f1 f2 (j+1) m f p;have h2:(qQ f1 f2 (j+1) m f p).drop (2*j+m+3)= [dE f2]:=by
  rw [show 2*j+m+3=1+((j+1)+(m+(j+1))) by omega,←zah,h0,←zah,List.drop_left' (by simp),←zah,List.drop_left' (by simp),List.drop_left' (by simp)]
 obtain ⟨g1,_,_⟩:=drop_at h2;unfold vg;refine bS (JM _ _ (by omega) (Re f1 f2 (j+1) m f p) (qQ f1 f2 (j+1) m f p).length (k+3) 0 (by omega) (by omega)) ?_;refine bS (v:=((),())) ?_ rfl
 show Bd (k+2) (qQ f1 f2 (j+1) m f p) 0=_
 rw [Bd];refine cT (dn _ 0 (by omega)) ?_;refine cT rfl ?_;refine bS (v:=dB f1) rfl ?_;refine cF rfl ?_;refine bS (JA f1 f2 j m f p hj hm _ (by omega)) ?_;refine bS (v:=false) (cF (by rw [Bool.eq_false_iff];intro h;have:=eq_of_beq h;rw [show zal ((0:Int)+1)=1 from rfl] at this;omega) (cF (jL (by unfold len;omega)) (cT (nn _) (bS (v:=dE f2) g1 rfl)))) ?_;refine cF rfl ?_;rw [Bd,AB _ (by omega)];exact cF (UI _ _ (by omega)) rfl
def yV (p:List UInt8):sH:=(1,([],(p,([],true))))
def mz (kids:List Int):sH:=(2,([],([],(kids,false))))
def pre (k:Nat):List sH:=(List.range k).map fun q=>mz [((q+1:Nat):Int)]
def fg (a m:Nat):List Int:=(List.range m).map fun t=>((a+t:Nat):Int)
def tr (k m:Nat) (p:List UInt8):List sH:=pre k++mz (fg (k+1) m)::List.replicate m (yV p)
theorem kP (k:Nat):(pre k).length=k:=by simp [pre]
theorem wb (a m:Nat):(fg a m).length=m:=by simp [fg]
theorem mI (k m:Nat) (p:List UInt8):(tr k m p).length=k+1+m:=by simp [tr,kP];omega
theorem DY (k:Nat):pre (k+1)=pre k++ [mz [((k+1:Nat):Int)]]:=by simp [pre,List.range_succ]
theorem Md (a m:Nat):fg a (m+1)=fg a m++ [((a+m:Nat):Int)]:=by simp [fg,List.range_succ]
def tz (q:Nat):List Int:=(List.range q).map fun (t:Nat)=>(t:Int)
theorem kF (q:Nat):(tz q).length=q:=by simp [tz]
theorem qm (q:Nat):tz (q+1)=tz q++((q:Int):: []):=by simp [tz,List.range_succ]
theorem SN (k:Nat) (p:List UInt8):List.set (tr k 0 p++mz []:: []) k (mz [((k+1:Nat):Int)])=tr (k+1) 0 p:=by
 unfold tr;rw [List.append_assoc,List.set_append,if_neg (by simp [kP]),kP,Nat.sub_self,DY];simp [fg]
theorem Ta (k m:Nat) (p:List UInt8):List.set (tr k m p++yV p:: []) k (mz (fg (k+1) (m+1)))=tr k (m+1) p:=by
 unfold tr;rw [List.append_assoc,List.set_append,if_neg (by simp [kP]),kP,Nat.sub_self,List.replicate_succ' (n:=m)];simp
theorem O8 (k m:Nat) (p:List UInt8) (x:sH):(tr k m p++x:: [])[k]? =some (mz (fg (k+1) m)):=by
 unfold tr;rw [List.append_assoc,List.getElem?_append_right (by simp [kP]),kP,Nat.sub_self];rfl
theorem G1 (l:List Ev) (f:Bool) (p:List UInt8) (rest:List Ev) (D N:Int) (hl:l.length<10000):∀ (r m i k:Nat) (res:_),l.drop i=List.replicate r (oN f)++rest->k+r<2000->((k+r+1:Nat):Int)<=D->((k+r+1:Nat):Int)<=N->
  cZ m l (len l) ((i+r:Nat):Int) (tr (k+r) 0 p) [0] (tz (k+r+1)) D N=res->cZ (m+r) l (len l) (i:Int) (tr k 0 p) [0] (tz (k+1)) D N=res:=by
 intro r
 induction r with
 |zero=>intro m i k res _ _ _ _ h;exact h
 |succ r ih=>
  intro m i k res hd hk hD hN h;have hd':l.drop i=oN f::(List.replicate r (oN f)++rest):=by rw [hd,List.replicate_succ];rfl
  obtain ⟨h1,h2,h3⟩:=drop_at hd';have hs:(tz k).length<100000:=by rw [kF];omega
  have ln:len (tr k 0 p)=((k+1:Nat):Int):=by unfold len;rw [mI]
  have ls:len (tz (k+1))=((k+1:Nat):Int):=by unfold len;rw [kF]
  rw [show m+(r+1)=(m+r)+1 by omega,cZ];refine cT (dn l i h3) ?_;refine cT (nn i) ?_;refine bS (v:=oN f) h1 ?_;refine cF rfl ?_;refine cT rfl ?_;refine cF (by rw [ls];exact jL (by omega)) ?_;refine cF (by rw [ln];exact jL (by omega)) ?_;refine cT (cr (by rw [mI];simp;omega)) ?_;refine cF (by rw [ls,Bool.eq_false_iff];intro h;have:=eq_of_beq h;omega) ?_;have e1:=oh (tz k) (k:Int) hs;have e2:=kM (tz k) (k:Int) hs;rw [←qm] at e1 e2;refine cT e1 ?_;refine bS e2 ?_;refine cT (by rw [nn,bD (by unfold len;rw [zaf,mI];simp;omega)];rfl) ?_;refine bS (v:=mz (fg (k+1) 0)) (O8 k 0 p _) ?_;refine cT (show room ((0+1)*9)=true from rfl) ?_;refine cT (by simp) ?_;refine cF rfl ?_;refine cT (cr (by rw [kF];simp;omega)) ?_;rw [ln,AB i (by omega)]
  show cZ (m+r) l (len l) ((i+1:Nat):Int) (List.set (tr k 0 p++mz []:: []) k (mz [((k+1:Nat):Int)])) [0] (tz (k+1)++((k+1:Nat):Int):: []) D N=res
  rw [SN,←qm];refine ih m (i+1) (k+1) res h2 (by omega) (by omega) (by omega) ?_;rw [show k+1+r=k+(r+1) by omega,show i+1+r=i+(r+1) by omega];exact h
theorem G2 (l:List Ev) (p:List UInt8) (rest:List Ev) (D N:Int) (hl:l.length<10000) (k:Nat) (hk:k<2000):∀ (r n i m:Nat) (res:_),l.drop i=List.replicate r (sN p)++rest->m+r<2000->((k+1+m+r:Nat):Int)<=N->
  cZ n l (len l) ((i+r:Nat):Int) (tr k (m+r) p) [0] (tz (k+1)) D N=res->cZ (n+r) l (len l) (i:Int) (tr k m p) [0] (tz (k+1)) D N=res:=by
 intro r
 induction r with
 |zero=>intro n i m res _ _ _ h;exact h
 |succ r ih=>
  intro n i m res hd hm hN h;have hd':l.drop i=sN p::(List.replicate r (sN p)++rest):=by rw [hd,List.replicate_succ];rfl
  obtain ⟨h1,h2,h3⟩:=drop_at hd';have hs:(tz k).length<100000:=by rw [kF];omega
  have ln:len (tr k m p)=((k+1+m:Nat):Int):=by unfold len;rw [mI]
  have ls:len (tz (k+1))=((k+1:Nat):Int):=by unfold len;rw [kF]
  rw [show n+(r+1)=(n+r)+1 by omega,cZ];refine cT (dn l i h3) ?_;refine cT (nn i) ?_;refine bS (v:=sN p) h1 ?_;refine cF rfl ?_;refine cF rfl ?_;refine cF rfl ?_;refine cF rfl ?_;refine cF rfl ?_;refine cT rfl ?_;refine cF (by rw [ln];exact jL (by omega)) ?_;refine cT (cr (by rw [mI];simp;omega)) ?_;refine cF (by rw [ls,Bool.eq_false_iff];intro h;have:=eq_of_beq h;omega) ?_;have e1:=oh (tz k) (k:Int) hs;have e2:=kM (tz k) (k:Int) hs;rw [←qm] at e1 e2;refine cT e1 ?_;refine bS e2 ?_;refine cT (by rw [nn,bD (by unfold len;rw [zaf,mI];simp;omega)];rfl) ?_;refine bS (v:=mz (fg (k+1) m)) (O8 k m p _) ?_;refine cT (show room (((fg (k+1) m).length+1)*9)=true from cr (by rw [wb];omega)) ?_;refine cT (by simp) ?_;refine cF rfl ?_;rw [ln,AB i (by omega)]
  show cZ (n+r) l (len l) ((i+1:Nat):Int) (List.set (tr k m p++yV p:: []) k (mz (fg (k+1) m++ [((k+1+m:Nat):Int)]))) [0] (tz (k+1)) D N=res
  rw [←Md,Ta];refine ih n (i+1) (m+1) res h2 (by omega) (by omega) ?_;rw [show m+1+r=m+(r+1) by omega,show i+1+r=i+(r+1) by omega];exact h
theorem G3 (l:List Ev) (rest:List Ev) (D N:Int) (hl:l.length<10000) (g:List sH):∀ (r n i:Nat) (res:_),l.drop i=List.replicate r cN++rest->r<2000->cZ n l (len l) ((i+r:Nat):Int) g [0] [] D N=res->cZ (n+r) l (len l) (i:Int) g [0] (tz r) D N=res:=by
 intro r
 induction r with
 |zero=>intro n i res _ _ h;exact h
 |succ r ih=>
  intro n i res hd hr h;have hd':l.drop i=cN::(List.replicate r cN++rest):=by rw [hd,List.replicate_succ];rfl
  obtain ⟨h1,h2,h3⟩:=drop_at hd';have hs:(tz r).length<100000:=by rw [kF];omega
  rw [show n+(r+1)=(n+r)+1 by omega,cZ,qm];refine cT (dn l i h3) ?_;refine cT (nn i) ?_;refine bS (v:=cN) h1 ?_;refine cF rfl ?_;refine cF rfl ?_;refine cF rfl ?_;refine cT rfl ?_;refine cT (Ir _ _ hs) ?_;rw [AB i (by omega),tj _ _ hs];have e:List.take (Int.toNat ((tz r).length:Int) - 0) (List.drop 0 (tz r++((r:Int):: [])))=tz r:=by simp
  rw [e];refine ih n (i+1) res h2 (by omega) ?_;rw [show i+1+r=i+(r+1) by omega];exact h
abbrev XJ:=Option ((ip×(ip×(((List sH)×(bv×(Unit×(bv×g7))))×Unit)))⊕((Unit×dg)×(ip×(((List sH)×(bv×(Unit×(bv×g7))))×Unit))))
theorem G0 (f1 f2:Bool) (j m:Nat) (f:Bool) (p:List UInt8) (D N:Int) (hj:j<300) (hm:m<300) (n:Nat) (hD:1<=D) (hN:1<=N) (res:XJ)
  (h:cZ n (qQ f1 f2 (j+1) m f p) (len (qQ f1 f2 (j+1) m f p)) ((2:Nat):Int) (tr 0 0 p) [0] (tz 1) D N=res):
  cZ (n+2) (qQ f1 f2 (j+1) m f p) (len (qQ f1 f2 (j+1) m f p)) 0 [] [] [] D N=res:=by
 have hl:=pe f1 f2 (j+1) m f p;have h0:=nh f1 f2 (j+1) m f p;obtain ⟨h1,_,h3⟩:=drop_at (show (qQ f1 f2 (j+1) m f p).drop 1=oN f::(List.replicate j (oN f)++(List.replicate m (sN p)++(List.replicate (j+1) cN++ [dE f2]))) by rw [h0,List.replicate_succ (n:=j) (a:=oN f)];rfl);rw [cZ];refine cT (dn _ 0 (by omega)) ?_;refine cT rfl ?_;refine bS (v:=dB f1) rfl ?_;refine cT rfl ?_;rw [show zal ((0:Int)+1)=((1:Nat):Int) from rfl,cZ];refine cT (dn _ 1 h3) ?_;refine cT rfl ?_;refine bS (v:=oN f) h1 ?_;refine cF rfl ?_;refine cT rfl ?_;refine cF (show aQ D 0=false from jL (by omega)) ?_;refine cF (show aQ N 0=false from jL (by omega)) ?_;refine cT rfl ?_;refine cT rfl ?_;refine cT rfl ?_;refine cF rfl ?_;refine cT rfl ?_;exact h
theorem zP (f1 f2:Bool) (j m:Nat) (f:Bool) (p:List UInt8):(qQ f1 f2 (j+1) m f p).drop 2=List.replicate j (oN f)++(List.replicate m (sN p)++(List.replicate (j+1) cN++ [dE f2])):=by
 simp [qQ,body,List.replicate_succ]
theorem X6 (l:List Ev) (f2:Bool) (g:List sH) (D N:Int) (n i:Nat) (hl:l.length<10000) (hd:l.drop i= [dE f2]) (hi:l.length=i+1):cZ (n+2) l (len l) (i:Int) g [0] [] D N=some (.inl (((),((),())),(((),((),())),((g,([0],((),([],(D,(N,())))))),())))):=by
 obtain ⟨h1,h2,h3⟩:=drop_at hd;rw [cZ];refine cT (dn l i h3) ?_;refine cT (nn i) ?_;refine bS (v:=dE f2) h1 ?_;refine cF rfl ?_;refine cF rfl ?_;refine cF rfl ?_;refine cF rfl ?_;refine cF rfl ?_;refine cF rfl ?_;refine cF rfl ?_;rw [AB i (by omega),cZ];exact cF (UI l (i+1) (by omega)) rfl
def uB (a b:Int):Int:=bif (aR b a) then b else a
theorem X4 (f1 f2:Bool) (j m:Nat) (f:Bool) (p:List UInt8) (D N:Int) (hj:j<300) (hm:m<300) (n:Nat) (hn:3000<=n) (hD:((j+1:Nat):Int)<=uB D 200) (hN:((j+1+m:Nat):Int)<=uB N 20000):
  sj n (qQ f1 f2 (j+1) m f p) D N=some ((tr j m p,[0]),(0:Int),()):=by
 have hl:=pe f1 f2 (j+1) m f p;have h2:=zP f1 f2 j m f p;have h3:(qQ f1 f2 (j+1) m f p).drop (2+j)=List.replicate m (sN p)++(List.replicate (j+1) cN++ [dE f2]):=by rw [←zah,h2,List.drop_left' (by simp)]
 have h4:(qQ f1 f2 (j+1) m f p).drop (2+j+m)=List.replicate (j+1) cN++ [dE f2]:=by rw [←zah,h3,List.drop_left' (by simp)]
 have h5:(qQ f1 f2 (j+1) m f p).drop (2+j+m+(j+1))= [dE f2]:=by rw [←zah,h4,List.drop_left' (by simp)]
 unfold sj;refine bS (o5 f1 f2 j m f p hj hm _ (by omega)) ?_;refine cF rfl ?_;refine bS (v:= .inl (((),((),())),(((),((),())),((tr j m p,([0],((),([],(uB D 200,(uB N 20000,())))))),())))) ?_ rfl;obtain ⟨k,rfl⟩:∃ k,n=k+2+(j+1)+m+j+2:=⟨n - 2 - (j+1) - m - j - 2,by omega⟩;refine G0 f1 f2 j m f p (uB D 200) (uB N 20000) hj hm _ (by omega) (by omega) _ ?_;refine G1 _ f p _ _ _ (by omega) j _ 2 0 _ h2 (by omega) (by omega) (by omega) ?_;rw [Nat.zero_add];refine G2 _ p _ _ _ (by omega) j (by omega) m _ (2+j) 0 _ h3 (by omega) (by omega) ?_;rw [Nat.zero_add];refine G3 _ _ _ _ (by omega) _ (j+1) _ (2+j+m) _ h4 (by omega) ?_;exact X6 _ f2 _ _ _ k _ (by omega) h5 (by omega)
theorem T4 (f1 f2:Bool) (j m:Nat) (f:Bool) (p:List UInt8) (D N:Int) (hj:j<300) (hm:m<300) (n:Nat) (hn:3000<=n) (hD0:0<=uB D 200) (hD:uB D 200<((j+1:Nat):Int)) (hN:((j+1:Nat):Int)<=uB N 20000):
  sj n (qQ f1 f2 (j+1) m f p) D N=some (([],([]:List Int)),(8:Int),()):=by
 have hl:=pe f1 f2 (j+1) m f p;have h2:=zP f1 f2 j m f p;unfold sj;refine bS (o5 f1 f2 j m f p hj hm _ (by omega)) ?_;refine cF rfl ?_;have fin:∀ z,Option.bind (some (.inr (((),((8:Int),())),z)):XJ) (fun y30=>match y30 with
   | .inl y31=>some ((y31.2.2.1.1,y31.2.2.1.2.1),(0:Int),())
   | .inr y32=>some (([],([]:List Int)),y32.1.2.1,()))=some (([],([]:List Int)),(8:Int),()):=fun z=>rfl
 by_cases hz:uB D 200=0
 ·obtain ⟨k,rfl⟩:∃ k,n=k+2:=⟨n - 2,by omega⟩
  have h0:=nh f1 f2 (j+1) m f p;obtain ⟨h1,_,h3⟩:=drop_at (show (qQ f1 f2 (j+1) m f p).drop 1=oN f::(List.replicate j (oN f)++(List.replicate m (sN p)++(List.replicate (j+1) cN++ [dE f2]))) by rw [h0,List.replicate_succ (n:=j) (a:=oN f)];rfl);refine bS (v:= .inr (((),((8:Int),())),(((),((),())),(([],([],((),([],(uB D 200,(uB N 20000,())))))),())))) ?_ rfl
  show cZ (k+2) _ _ 0 [] [] [] (uB D 200) (uB N 20000)=_
  rw [cZ];refine cT (dn _ 0 (by omega)) ?_;refine cT rfl ?_;refine bS (v:=dB f1) rfl ?_;refine cT rfl ?_;rw [show zal ((0:Int)+1)=((1:Nat):Int) from rfl,cZ];refine cT (dn _ 1 h3) ?_;refine cT rfl ?_;refine bS (v:=oN f) h1 ?_;refine cF rfl ?_;refine cT rfl ?_;exact cT (show aQ (uB D 200) 0=true from bV (by omega)) rfl
 ·-- so many lists may stand in each other
  obtain ⟨q,hq⟩:∃ q:Nat,uB D 200=((q+1:Nat):Int):=⟨(uB D 200).toNat - 1,by omega⟩;obtain ⟨r,hr⟩:∃ r,j=q+(r+1):=⟨j - q - 1,by omega⟩;have h3:(qQ f1 f2 (j+1) m f p).drop (2+q)=oN f::(List.replicate r (oN f)++(List.replicate m (sN p)++(List.replicate (j+1) cN++ [dE f2]))):=by
   rw [←zah,h2,hr,←List.replicate_append_replicate,List.append_assoc,List.drop_left' (by simp),List.replicate_succ];rfl
  have h2':(qQ f1 f2 (j+1) m f p).drop 2=List.replicate q (oN f)++(oN f::(List.replicate r (oN f)++(List.replicate m (sN p)++(List.replicate (j+1) cN++ [dE f2])))):=by
   rw [h2,hr,←List.replicate_append_replicate,List.append_assoc,List.replicate_succ];rfl
  obtain ⟨g1,g2,g3⟩:=drop_at h3;obtain ⟨k,rfl⟩:∃ k,n=k+1+q+2:=⟨n - 1 - q - 2,by omega⟩;refine bS (v:= .inr (((),((8:Int),())),(((),((),())),((tr q 0 p,([0],((),(tz (q+1),(uB D 200,(uB N 20000,())))))),())))) ?_ rfl;refine G0 f1 f2 j m f p (uB D 200) (uB N 20000) hj hm _ (by omega) (by omega) _ ?_;refine G1 _ f p _ _ _ (by omega) q _ 2 0 _ h2' (by omega) (by omega) (by omega) ?_;rw [Nat.zero_add,cZ];refine cT (dn _ _ g3) ?_;refine cT (nn _) ?_;refine bS (v:=oN f) g1 ?_;refine cF rfl ?_;refine cT rfl ?_;exact cT (by unfold len;rw [kF];exact bV (by omega)) rfl
set_option maxRecDepth 10000
theorem V8 (j q:Nat) (hj:j<300) (m:Int) (hq:3000<=q):qB q ((0:Int),(0:Int)) [((0:Int),gZ (j+1) [])] m true 0 [] []=I9 (gZ (j+1) []) m (if j+1<=200 then some (body (j+1) 0 true []) else none):=by
 have hT:(gZ (j+1) []).length=2*(j+1):=by rw [kD];simp
 show dD q q _ _ _ _ _ _ _=_
 by_cases h:j+1<=200
 ·rw [if_pos h]
  refine (TK (gZ (j+1) []) (by omega) m j q q 0 [] [] [] rfl (by omega) (by simp;omega) (by simp;omega) (by omega) (by omega)).trans ?_;unfold I9;rw [show ((gZ (j+1) []).length:Int)=((0+2*(j+1):Nat):Int) by rw [hT];omega];rfl
 ·rw [if_neg h]
  exact Rr (gZ (j+1) []) (by omega) m j q q 0 [] [] [] rfl (by simp;omega) (by simp) (by simp;omega) (by omega) (by omega)
theorem Wa (j n:Nat) (hj:j<300) (hn:4000<=n):Ap n 0 0 (-1,(true,false)) ([],[]) [((0:Int),gZ (j+1) [])] [] [] [((0:Int),gZ (j+1) [])]=Mk (gZ (j+1) []) (if j+1<=200 then some (body (j+1) 0 true []) else none):=by
 obtain ⟨d,rfl⟩:∃ d,n=d+1:=⟨n - 1,by omega⟩;have hl:=kD (j+1) [];obtain ⟨x,r,hx,h1,h2⟩:=Cl j []
 show fB (d+1) (d+1) _ _ _ _ _ _ _ _=_
 refine (IQ d (d+1) (gZ (j+1) []) x r (-1) false (if j+1<=200 then some (body (j+1) 0 true []) else none) (by simp at hl;omega) (by rw [←hx];rfl) (fun ev he=>?_) (fun q hq m=>V8 j q hj m (by omega)) (by omega));split at he
 ·cases he;exact ⟨by simp [body];omega,_,_,rfl,rfl⟩
 ·cases he
theorem X1 (j n:Nat) (hj:j<300) (hn:4000<=n):Ap n 0 0 (-1,(true,false)) ([],[]) [((0:Int),uP (j+1))] [] [] [((0:Int),uP (j+1))]=Mk (uP (j+1)) (if j+1<=200 then some (body (j+1) 1 false []) else none):=by
 have hl:=CO (j+1)
 show fB n n _ _ _ _ _ _ _ _=_
 refine (ZE (uP (j+1)) (by omega) (j+1) n n 0 0 (-1) false [] [] rfl (by omega) (by omega) (by simp) (by simp;omega) (by omega) (by omega)).trans ?_;unfold Pb;rw [show ([]:List Int).length+(j+1)=j+1 by simp];split<;>rfl
set_option maxRecDepth 10000
def lt7 (x:UInt8):Prop:=32<=x.toNat/\x.toNat<=126
theorem Px (x:UInt8):ub x=(x.toNat:Int):=rfl
theorem Xn (m:Nat) (r:List UInt8):form (m+60) (91::91::r)=some (1,0,()):=by kernel_rfl
theorem XQ (m:Nat) (r:List UInt8):form (m+60) (91::93::r)=some (1,0,()):=by kernel_rfl
theorem W2 (m:Nat) (r:List UInt8):form (m+60) (45::32::r)=some (1,0,()):=by kernel_rfl
theorem UE (n:Nat) (x:UInt8) (r:List UInt8) (h:lt7 x):dr n (x::r)=some (ub x,1,()):=by
 have h1:32<=x.toNat:=h.1;have h2:x.toNat<=126:=h.2;unfold dr;refine bS (v:=((IntKind.wrap Go.IntKind.i32 (ub x),((1:Int),())),())) ?_ ?_
 ·rw [OX]
  refine cT (dn (x::r) 0 (by simp)) ?_;refine cT rfl ?_;refine bS (v:=x) rfl ?_;refine cT (by show Nat.blt x.toNat 128=true;rw [Nat.blt_eq];omega) ?_;rfl
 ·show some (IntKind.wrap Go.IntKind.i32 (ub x),(1:Int),())=_
  have:IntKind.wrap .i32 (ub x)=ub x:=NK x;rw [this]
theorem TE (n:Nat) (c:Int) (h1:0<=c) (h2:c<=1000):is n c=some (true,()):=by
 unfold is;refine bS (v:=true) ?_ rfl;refine cT (bV h1) ?_;refine cT (bV (by omega)) ?_;exact cT (bD (by omega)) rfl
theorem FC:∀ (r:List UInt8) (n:Nat) (a:List Int),(∀ x∈r,lt7 x)->r.length<n->a.length+r.length<=10000->
  tF n 0 a r=some ((),(((),()),(((0:Int),()),((a++r.map ub,()),(([],()),(((),((),((),()))),())))))):=by
 intro r
 induction r with
 |nil=>
  intro n a _ hn _;obtain ⟨m,rfl⟩:∃ m,n=m+1:=⟨n - 1,by omega⟩;rw [tF];exact cF rfl (by simp)
 |cons x r ih=>
  intro n a hr hn ha;obtain ⟨m,rfl⟩:∃ m,n=m+1:=⟨n - 1,by omega⟩;simp at hn ha;have hx:lt7 x:=hr x (List.mem_cons_self ..);have h1:32<=x.toNat:=hx.1;have h2:x.toNat<=126:=hx.2;have w:zal (ub x)=ub x:=by rw [Px];exact bw (by omega) (by omega)
  rw [tF];refine cT (dn (x::r) 0 (by simp)) ?_;refine bS (UE _ x r hx) ?_;refine bS (v:=false) (cF (by rw [ie];exact decide_eq_false (by rw [Px];omega)) rfl) ?_;refine cF rfl ?_;refine bS (TE _ _ (by rw [w,Px];omega) (by rw [w,Px];omega)) ?_;refine cF rfl ?_;refine cT (cr (by simp;omega)) ?_;refine cT (by rw [show aQ (0:Int) 1=true from rfl,show aQ (1:Int) (len (x::r))=true from bV (by unfold len;simp;omega)];rfl) ?_;have e:List.take ((x::r).length - Int.toNat 1) (List.drop (Int.toNat 1) (x::r))=r:=by simp
  show tF m 0 (a++(zal (ub x)):: []) (List.take ((x::r).length - Int.toNat 1) (List.drop (Int.toNat 1) (x::r)))=_
  rw [e,w,ih m (a++ [ub x]) (fun y hy=>hr y (zak _ hy)) (by omega) (by simp;omega)];simp
theorem GK (n:Nat) (b:List UInt8) (hb:∀ x∈b,lt7 x) (hl:b.length<=5000) (hf:form n b=some (1,0,())) (hn:b.length<n):points n b=some (b.map ub,(0:Int),()):=by
 unfold points;refine cF (bC (by unfold len;omega)) ?_;refine bS hf ?_;refine cT (by rw [show aQ (0:Int) 0=true from rfl,show aQ (0:Int) (len b)=true from bV (by unfold len;omega)];rfl) ?_;refine cF rfl ?_;refine cF rfl ?_;refine cF rfl ?_;refine cF rfl ?_;have e:List.take (b.length - Int.toNat 0) (List.drop (Int.toNat 0) b)=b:=by simp
 show Option.bind (tF n 0 [] (List.take (b.length - Int.toNat 0) (List.drop (Int.toNat 0) b))) _=_
 rw [e];refine bS (FC b n [] hb hn (by simp;omega)) ?_;rfl
theorem J9 (t0:List Int) (t3:Int) (l:List Int) (hl:l.length<10000) (h:∀ c∈l,32<=c/\c<=126):∀ (k n i:Nat),i+k=l.length->k<n->As n t0 t3 l (len l) (i:Int)=some ((t0,((),(t3,()))),()):=by
 intro k
 induction k with
 |zero=>
  intro n i hi hn;obtain ⟨m,rfl⟩:∃ m,n=m+1:=⟨n - 1,by omega⟩;rw [As];exact cF (UI l i (by omega)) rfl
 |succ k ih=>
  intro n i hi hn;obtain ⟨m,rfl⟩:∃ m,n=m+1:=⟨n - 1,by omega⟩;have hlt:i<l.length:=by omega
  have hc:=h _ (List.getElem_mem hlt);have e2:l[Int.toNat (i:Int)]? =some l[i]:=zaj hlt;generalize l[i]=c at e2 hc;rw [As];refine cT (dn l i hlt) ?_;refine cT (nn i) ?_;refine bS e2 ?_;refine bS (JC _ c (by omega) (by omega)) ?_;refine cF rfl ?_;refine cF (by rw [ie];exact decide_eq_false (by omega)) ?_;rw [AB i (by omega)];exact ih m (i+1) (by omega) (by omega)
theorem IT (l:List Int) (hl:l.length<10000) (h:∀ c∈l,32<=c/\c<=126):∀ (k n i:Nat),i+k=l.length->k<n->Bg n l (len l) (i:Int)=some ((),()):=by
 intro k
 induction k with
 |zero=>
  intro n i hi hn;obtain ⟨m,rfl⟩:∃ m,n=m+1:=⟨n - 1,by omega⟩;rw [Bg];exact cF (UI l i (by omega)) rfl
 |succ k ih=>
  intro n i hi hn;obtain ⟨m,rfl⟩:∃ m,n=m+1:=⟨n - 1,by omega⟩;have hlt:i<l.length:=by omega
  have hc:=h _ (List.getElem_mem hlt);have e2:l[Int.toNat (i:Int)]? =some l[i]:=zaj hlt;generalize l[i]=c at e2 hc;rw [Bg];refine cT (dn l i hlt) ?_;refine cT (nn i) ?_;refine bS e2 ?_;refine bS (v:=false) (cF (by rw [ie];exact decide_eq_false (by omega)) (by rw [show (c==13)=false from by rw [ie];exact decide_eq_false (by omega)])) ?_;refine cF rfl ?_;rw [AB i (by omega)];exact ih m (i+1) (by omega) (by omega)
theorem Jk (n:Nat) (x:Int) (r:List Int) (hl:(x::r).length<5000) (h:∀ c∈x::r,32<=c/\c<=126) (hx:x≠32) (hn:6000<=n):kd n (x::r)=some ([((0:Int),x::r)],(0:Int),()):=by
 obtain ⟨m,rfl⟩:∃ m,n=m+1:=⟨n - 1,by omega⟩;unfold kd;refine bS (J9 (x::r) 0 (x::r) (by omega) h _ (m+1+1) 0 (Nat.zero_add _) (by omega)) ?_
 show Option.bind (LO (m+1) (x::r)) _=_
 refine bS (v:=((),(([((0:Int),x::r)],()),((x::r,()),(((),()),()))))) ?_ rfl;rw [LO];refine cT (dn (x::r) 0 (by simp)) ?_;refine bS (IT (x::r) (by omega) h _ (m+1) 0 (Nat.zero_add _) (by omega)) ?_;refine bS (v:=(((),(x::r,((0:Int),()))),(((),()),(((),()),())))) ?_ ?_
 ·rw [rY]
  refine bS (v:=false) (cT (dn (x::r) 0 (by simp)) (cT rfl (bS (v:=x) rfl (by rw [show (x==32)=false from by rw [ie];exact decide_eq_false hx])))) ?_;exact cF rfl rfl
 ·refine cT (by rw [show aQ (0:Int) (len (x::r))=true from bV (by unfold len;omega)];rfl) ?_
  have e:List.take ((x::r).length - Int.toNat 0) (List.drop (Int.toNat 0) (x::r))=x::r:=by simp
  show (bif (!(List.isEmpty (List.take ((x::r).length - Int.toNat 0) (List.drop (Int.toNat 0) (x::r))))) then _ else _)=_
  refine cT (by rw [e];rfl) ?_;refine cT (by rw [e];exact cr (by omega)) ?_
  show some ((),(([((0:Int),[]++List.take ((x::r).length - Int.toNat 0) (List.drop (Int.toNat 0) (x::r)))],()),((x::r,()),(((),()),()))))=_
  rw [e];rfl
set_option maxRecDepth 10000
structure Pr (T:List Int) (x y:Int) (r:List Int):Prop where
 eq:T=x::y::r
 len:T.length<5000
 bl:Ol x=false
 Zy:x≠35
 ZG:x≠37
 ZO:x≠46
 Zx:x≠45∨y≠45
theorem Qe {T:List Int} {x y:Int} {r:List Int} (h:Pr T x y r) (n:Nat):bare (n+1) ((0:Int),T)=some (false,()):=by
 unfold bare;rw [h.eq];refine bS (v:=((x::y::r,()),())) ?_ ?_
 ·rw [Iy]
  refine cT (dn (x::y::r) 0 (by simp)) ?_;refine bS (v:=x) rfl ?_;refine bS (fc _ _) ?_;exact cF h.bl rfl
 ·refine bS (v:=false) (cF (by unfold len;rw [ie];exact decide_eq_false (by simp;omega)) (bS (v:=x) rfl (by rw [show (x==35)=false from by rw [ie];exact decide_eq_false h.Zy]))) ?_
  rfl
theorem AY {T:List Int} {x y:Int} {r:List Int} (h:Pr T x y r) (n:Nat):nC (n+3) ((45:Int)::((46:Int)::([]:List Int))) 2 0 0 T=some ((),((0,(T,())),())):=by
 have g0:T[0]? =some x:=by rw [h.eq];rfl
 have g1:T[1]? =some y:=by rw [h.eq];rfl
 have l2:nC (n+2) ((45:Int)::((46:Int)::([]:List Int))) 2 1 0 T=some ((),((0,(T,())),())):=by
  rw [nC];refine cT rfl ?_;refine cT rfl ?_;refine bS (v:=46) rfl ?_;refine bS g0 ?_;refine cF (by rw [ie];exact decide_eq_false h.ZO) ?_;rw [show zal ((1:Int)+1)=2 from rfl,nC];exact cF rfl rfl
 rw [nC];refine cT rfl ?_;refine cT rfl ?_;refine bS (v:=45) rfl ?_;refine bS g0 ?_;by_cases hx:x=45
 ·refine cT (by rw [ie];exact decide_eq_true hx) ?_
  refine bS g1 ?_;refine cF (by rw [ie];exact decide_eq_false (h.Zx.resolve_left (fun k=>k hx))) ?_;exact l2
 ·refine cF (by rw [ie];exact decide_eq_false hx) ?_
  exact l2
theorem vH {T:List Int} {x y:Int} {r:List Int} (h:Pr T x y r) (n:Nat):oA (n+2) ((0:Int),T)=some ((0:Int),()):=by
 unfold oA;refine cF rfl ?_;by_cases h1:T.length<3
 ·exact cT (show aR (len T) 3=true from bD (by unfold len;omega)) rfl
 ·refine cF (show aR (len T) 3=false from bC (by unfold len;omega)) ?_
  by_cases h2:3<T.length
  ·refine cT (show aR 3 (len T)=true from bD (by unfold len;omega)) ?_
   refine bS (show T[3]? =some T[3] from zaj h2) ?_;refine bS (fc _ _) ?_;cases hb:Ol T[3] with
   |false=>exact cT rfl rfl
   |true=>
    refine cF rfl ?_;exact bS (AY h n) rfl
  ·refine cF (show aR 3 (len T)=false from bC (by unfold len;omega)) ?_
   exact bS (AY h n) rfl
theorem JW (a:List Ev) (ha:a.length<10000) (ht:∀ e∈a,e.2.2.1= []):∀ (k n i:Nat),i+k=a.length->k<n->mE n (len a) (i:Int) a=some (((),()),(((),()),(a,()))):=by
 intro k
 induction k with
 |zero=>
  intro n i hi hn;obtain ⟨m,rfl⟩:∃ m,n=m+1:=⟨n - 1,by omega⟩;rw [mE];exact cF (UI a i (by omega)) rfl
 |succ k ih=>
  intro n i hi hn;obtain ⟨m,rfl⟩:∃ m,n=m+1:=⟨n - 1,by omega⟩;have hlt:i<a.length:=by omega
  have e1:((aQ (0:Int) (i:Int)) &&(aR (i:Int) (len a)))=true:=by rw [nn,dn _ _ hlt];rfl
  have e2:a[Int.toNat (i:Int)]? =some a[i]:=zaj hlt;have hx:=ht _ (List.getElem_mem hlt);have es:List.set a (Int.toNat (i:Int)) a[i]=a:=by simp
  generalize a[i]=e at e2 hx es;rw [mE];refine cT (dn a i hlt) ?_;refine cT e1 ?_;refine bS e2 ?_;refine bS (v:=true) (cT (by rw [hx];rfl) rfl) ?_;refine cT rfl ?_;refine cT e1 ?_;refine bS e2 ?_;rw [AB i (by omega)];refine Eq.trans ?_ (ih m (i+1) (by omega) (by omega));exact congrArg (mE m (len a) ((i+1:Nat):Int)) es
theorem Lx {T:List Int} {x y:Int} {r:List Int} (h:Pr T x y r) (n:Nat) (out:List Ev):AW (n+5) [((0:Int),T)] 0 out=some ((false,true,()),(([((0:Int),T)],(0,(out,()))),())):=by
 unfold AW;refine bS (v:=((),(([((0:Int),T)],((0:Int),(out,()))),()))) ?_ ?_
 ·rw [Ki]
  refine cT rfl ?_;refine cT rfl ?_;refine bS (v:=((0:Int),T)) rfl ?_;refine bS (Qe h _) ?_;exact cF rfl rfl
 ·refine bS (v:=((false,()),(([((0:Int),T)],((0:Int),(out,()))),()))) ?_ rfl
  show Bl (n+7) false [((0:Int),T)] 0 out=_
  rw [Bl];refine cT rfl ?_;refine cT rfl ?_;refine bS (v:=((0:Int),T)) rfl ?_;refine bS (vH h _) ?_;exact cF rfl rfl
theorem UQ (T:List Int) (n:Nat) (out:List Ev):AW (n+5) [((0:Int),T)] 1 out=some ((false,true,()),(([((0:Int),T)],(1,(out,()))),())):=by
 unfold AW;refine bS (v:=((),(([((0:Int),T)],((1:Int),(out,()))),()))) ?_ ?_
 ·rw [Ki]
  exact cF rfl rfl
 ·refine bS (v:=((false,()),(([((0:Int),T)],((1:Int),(out,()))),()))) ?_ rfl
  show Bl (n+7) false [((0:Int),T)] 1 out=_
  rw [Bl];exact cF rfl rfl
theorem KZ {T:List Int} {x y:Int} {r:List Int} (h:Pr T x y r) (n:Nat) (out:List Ev):Kx n [((0:Int),T)] 0 out=some (((0:Int),()),(([((0:Int),T)],(0,(out,()))),(((),()),()))):=by
 unfold Kx;refine bS (v:=(((),(false,())),(([((0:Int),T)],((0:Int),(out,()))),(((),()),(((0:Int),()),()))))) ?_ ?_
 ·rw [PZ]
  refine cT rfl ?_;refine cT rfl ?_;refine bS (v:=((0:Int),T)) rfl ?_;refine cT rfl ?_;refine cT (dn T 0 (by rw [h.eq];simp)) ?_;refine bS (v:=x) (by rw [h.eq];rfl) ?_;exact cF (by rw [ie];exact decide_eq_false h.ZG) rfl
 ·exact cF rfl rfl
structure ME (T:List Int) (out:Option (List Ev)):Prop where
 pn:∀ n,4000<=n->Ap n 0 0 (-1,(true,false)) ([],[]) [((0:Int),T)] [] [] [((0:Int),T)]=Mk T out
 ne:∀ e,out=some e->e≠ []/\e.length<3000/\∀ x∈e,x.2.2.1= []
theorem Aq (T:List Int) (n:Nat):ql (n+2) [((0:Int),T)]=some ([((0:Int),T)],()):=by
 unfold ql;refine bS (v:=((),())) ?_ rfl;rw [wi];refine cT rfl ?_;refine cT rfl ?_;refine bS (v:=((0:Int),T)) rfl ?_;refine cF rfl ?_;rw [show zal ((0:Int)+1)=1 from rfl,wi];exact cF rfl rfl
def Yq:Option (List Ev)->Option (List Ev×g7)
 |some ev=>some (ev,(1:Int),(0:Int),())
 |none=>some ([],(0:Int),(8:Int),())
theorem Lh (T:List Int) (out:Option (List Ev)) (ho:ME T out) (n:Nat) (hn:4000<=n):LY n [((0:Int),T)] 0 0=Yq out:=by
 obtain ⟨m,rfl⟩:∃ m,n=m+2:=⟨n - 2,by omega⟩;unfold LY;refine bS (Aq T (m+1)) ?_;refine cF rfl ?_;refine cF rfl ?_;refine cF rfl ?_;refine cT rfl ?_;refine bS (v:=((0:Int),T)) rfl ?_;refine cT rfl ?_;refine bS (v:=((0:Int),T)) rfl ?_;refine cF (show aR (len T) 0=false from bC (by unfold len;omega)) ?_;refine bS (Aq T m) ?_;cases out with
 |none=>
  refine bS ((ho.pn (m+4) (by omega)).trans rfl) ?_;exact cT rfl rfl
 |some ev=>
  refine bS ((ho.pn (m+4) (by omega)).trans rfl) ?_;refine bS (oz (m+1) T) ?_;exact cT rfl rfl
def Yx (T:List Int) (o:Option (List Ev)):Option (dg×((bi×(Int×((List Ev)×Unit)))×(d9×Unit))):=
 match o with
 |some ev=>some (((0:Int),()),(([((0:Int),T)],(1,(dB false::(ev++ [dE false]),()))),(((),()),())))
 |none=>some (((8:Int),()),(([((0:Int),T)],(0,([],()))),(((),()),())))
theorem P9 {T:List Int} {x y:Int} {r:List Int} (h:Pr T x y r) (out:Option (List Ev)) (ho:ME T out) (n:Nat) (hn:5000<=n):Ut n [((0:Int),T)] 0 []=Yx T out:=by
 obtain ⟨m,rfl⟩:∃ m,n=m+1:=⟨n - 1,by omega⟩;unfold Ut;refine cT rfl ?_;refine bS (v:=((0:Int),T)) rfl ?_;refine bS (vH h _) ?_;refine cF rfl ?_;cases out with
 |none=>
  refine bS ((Lh T none ho _ (by omega)).trans rfl) ?_;exact cT rfl rfl
 |some ev=>
  obtain ⟨h1,h2,h3⟩:=ho.ne ev rfl;refine bS ((Lh T (some ev) ho _ (by omega)).trans rfl) ?_;refine cF rfl ?_;refine cT (by cases ev with |nil=>exact absurd rfl h1 |cons a b=>rfl) ?_;refine cT (cr (by simp;omega)) ?_;refine bS (show mE (m+1+4) (len ([]++ev)) 0 ([]++ev)=_ from JW ev (by omega) h3 ev.length (m+1+4) 0 (Nat.zero_add _) (by omega)) ?_;refine cF rfl ?_;refine cT rfl ?_;refine cT (cr (by simp;omega)) ?_;refine cT (cr (by simp;omega)) ?_;rfl
def XV:Option (List Ev)->Option ((List Ev)×dg)
 |some ev=>some (dB false::(ev++ [dE false]),(0:Int),())
 |none=>some ([],(8:Int),())
theorem LN {T:List Int} {x y:Int} {r:List Int} (h:Pr T x y r) (out:Option (List Ev)) (ho:ME T out) (n:Nat) (hn:6000<=n):Lw n [((0:Int),T)]=XV out:=by
 obtain ⟨m,rfl⟩:∃ m,n=m+3:=⟨n - 3,by omega⟩;unfold Lw;cases out with
 |none=>
  refine bS (v:= .inr ((),(((),()),(((8:Int),()),(([((0:Int),T)],((0:Int),([],()))),(((),()),(((),((),())),()))))))) ?_ rfl;rw [zZ];refine bS (Lx h (m+1) []) ?_;refine cF rfl ?_;refine cF rfl ?_;refine cT rfl ?_;refine bS (KZ h _ []) ?_;refine cF rfl ?_;refine bS ((P9 h none ho _ (by omega)).trans rfl) ?_;exact cT rfl rfl
 |some ev=>
  have hlast:zal ((len (dB false::(ev++ [dE false]))) - (1:Int))=((dB false::ev).length:Int):=tj (dB false::ev) (dE false) (by obtain ⟨_,h2,_⟩:=ho.ne ev rfl;simp;omega);have hl:=(ho.ne ev rfl).2.1;refine bS (v:= .inl ((),(((),()),(((0:Int),()),(([((0:Int),T)],((1:Int),(dB false::(ev++ [dE false]),()))),(((),()),(((),((),())),()))))))) ?_ rfl;rw [zZ];refine bS (Lx h (m+1) []) ?_;refine cF rfl ?_;refine cF rfl ?_;refine cT rfl ?_;refine bS (KZ h _ []) ?_;refine cF rfl ?_;refine bS ((P9 h (some ev) ho _ (by omega)).trans rfl) ?_;refine cF rfl ?_;refine cT (oh (dB false::ev) (dE false) (by simp;omega)) ?_;refine bS (kM (dB false::ev) (dE false) (by simp;omega)) ?_;rw [zZ];refine bS (UQ T m _) ?_;refine cF rfl ?_;exact cT rfl rfl
theorem OV {x y:Int} {r:List Int} (b:List UInt8) (h:Pr (b.map ub) x y r) (out:Option (List Ev)) (ho:ME (b.map ub) out) (hb:∀ c∈b,lt7 c) (hx:x≠32) (hf:∀ n,100<=n->form n b=some (1,0,())) (n:Nat) (hn:7000<=n):events n b=XV out:=by
 have hl:b.length<5000:=by have:=h.len;simpa using this
 unfold events;refine bS (GK _ b hb (by omega) (hf _ (by omega)) (by omega)) ?_;refine cF rfl ?_;have hc:∀ c∈b.map ub,32<=c/\c<=126:=fun c hc=>by
  obtain ⟨z,hz,rfl⟩:=List.mem_map.1 hc;have h1:32<=z.toNat:=(hb z hz).1;have h2:z.toNat<=126:=(hb z hz).2;rw [Px];omega
 have hli:kd (n+6) (b.map ub)=some ([((0:Int),b.map ub)],(0:Int),()):=by
  have e:=h.eq;have hlen:=h.len;generalize b.map ub=T at e hc hlen;subst e;exact Jk (n+6) x (y::r) hlen hc hx (by omega)
 refine bS hli ?_;refine cF rfl ?_;cases out with
 |none=>exact bS ((LN h none ho n (by omega)).trans rfl) rfl
 |some ev=>exact bS ((LN h (some ev) ho n (by omega)).trans rfl) rfl
abbrev MT:=Int×g8
def B9:List UInt8:= [116,97,103,58,121,97,109,108,46,111,114,103,44,50,48,48,50,58,115,116,114]
def fX:List UInt8:= [116,97,103,58,121,97,109,108,46,111,114,103,44,50,48,48,50,58,115,101,113]
theorem Ja (k:Nat):valid (k+60) fX=some (true,()):=by kernel_rfl
theorem Ml {n:Nat} (hn:60<=n):valid n fX=some (true,()):=by
 obtain ⟨k,rfl⟩:∃ k,n=k+60:=⟨n - 60,by omega⟩;exact Ja k
theorem Oz {n:Nat} (hn:60<=n) (l:List Int):node n (2,(fX,([],(l,false))))=some (true,()):=by
 unfold node;have e1:aR 1000 (len fX)=false:=by decide
 have e2:(fX== [33])=false:=by decide
 simp only [e1,zab];rw [show ((fX==([33]:List UInt8))=false) from e2];rw [Ml hn];rfl
theorem Jw (g:List MT) (rt l:List Int) (hl:∀ c∈l,0<=c/\c<(g.length:Int)) (hb:l.length<=100000):∀ (k n:Nat) (t:Int),0<=t->t+k=l.length->k<n->
  Av n l (len l) t g rt=some ((),((g,(rt,())),())):=by
 intro k
 induction k with
 |zero=>
  intro n t h0 h1 hn;cases n with
  |zero=>omega
  |succ n=>
   have e1:aR t (len l)=false:=bC (by unfold len;omega);simp only [Av,e1,zab]
 |succ k ih=>
  intro n t h0 h1 hn;cases n with
  |zero=>omega
  |succ n=>
   have e1:aR t (len l)=true:=bD (by unfold len;omega);have e2:aQ 0 t=true:=bV h0;have hlt:t.toNat<l.length:=by omega
   have e3:l[t.toNat]? =some l[t.toNat]:=zaj hlt;have hc:=hl _ (List.getElem_mem hlt);generalize l[t.toNat]=c at e3 hc;have e4:aR c 0=false:=bC (by omega);have e5:aQ (len g) c=false:=by rw [kI];exact decide_eq_false (by unfold len;omega)
   have w:zal (t+1)=t+1:=bw (by omega) (by omega);simp only [Av,e1,e2,e3,e4,e5,w,zac,zab,zaa];exact ih n (t+1) (by omega) (by omega) (by omega)
theorem D9 {n:Nat} (g:List MT) (rt l:List Int) (hl:∀ c∈l,0<=c/\c<(g.length:Int)) (hb:l.length<=100000) (hn:l.length<=n):Xu n (g,rt) l=some (true,()):=by
 unfold Xu;rw [Jw g rt l hl hb l.length (n+1) 0 (Int.le_refl _) (by omega) (by omega)];rfl
def jV:List MT->Nat
 | []=>0
 |x::r=>x.2.2.2.1.length+jV r
theorem tT (a b:List MT):jV (a++b)=jV a+jV b:=by
 induction a with
 |nil=>simp [jV]
 |cons x r ih=>simp [jV,ih];omega
theorem J7 (g:List MT) (rt:List Int) (K:Nat) (hg:g.length<=20000) (hK:K<=20000) (hS:jV g<=20000) (hx:∀ (j:Nat) x,g[j]? =some x->(∀ n,200<=n->node n x=some (true,()))/\x.2.2.2.1.length<=K/\∀ c∈x.2.2.2.1,0<=c/\c<(g.length:Int)):∀ (k n:Nat) (t3 t:Nat),t+k=g.length->t3+jV (g.drop t)=jV g->K+k+200<n->
  AG n (t3:Int) g (len g) (t:Int) g rt=some ((),((g,(rt,())),())):=by
 intro k
 induction k with
 |zero=>
  intro n t3 t h1 h3 hn;cases n with
  |zero=>omega
  |succ n=>
   have e1:aR (t:Int) (len g)=false:=bC (by unfold len;omega);simp only [AG,e1,zab]
 |succ k ih=>
  intro n t3 t h1 h3 hn;cases n with
  |zero=>omega
  |succ n=>
   have e1:aR (t:Int) (len g)=true:=bD (by unfold len;omega);have e2:aQ 0 (t:Int)=true:=bV (by omega);have hlt:t<g.length:=by omega
   have e3:g[Int.toNat (t:Int)]? =some g[t]:=zaj hlt;obtain ⟨x1,x2,x3⟩:=hx t g[t] (zaj hlt);have hdr:g.drop t=g[t]::g.drop (t+1):=List.drop_eq_getElem_cons hlt;rw [hdr] at h3;generalize g[t]=x at e3 x1 x2 x3 h3;have h3':t3+x.2.2.2.1.length+jV (g.drop (t+1))=jV g:=by rw [←h3];simp [jV];omega
   have w1:zal ((t3:Int)+len x.2.2.2.1)=((t3+x.2.2.2.1.length:Nat):Int):=by unfold len;rw [bw]<;>omega
   have w2:zal ((t:Int)+1)=((t+1:Nat):Int):=by rw [bw]<;>omega
   have e4:aR 20000 ((t3+x.2.2.2.1.length:Nat):Int)=false:=bC (by omega);have e5:node (n+1) (x.1,(x.2.1,(x.2.2.1,(x.2.2.2.1,x.2.2.2.2))))=some (true,()):=x1 (n+1) (by omega);have e6:=D9 (n:=n+6) g rt x.2.2.2.1 x3 (by omega) (by omega);simp only [AG,e1,e2,e3,w1,w2,e4,e5,e6,zac,zab,zaa,Bool.not_true];exact ih n _ (t+1) (by omega) h3' (by omega)
theorem I7 {n:Nat} (g:List MT) (rt:List Int) (K:Nat) (hg:g.length<=20000) (hK:K<=20000) (hS:jV g<=20000) (hr:∀ c∈rt,0<=c/\c<(g.length:Int)) (hrl:rt.length<=20000) (hx:∀ (j:Nat) x,g[j]? =some x->(∀ n,200<=n->node n x=some (true,()))/\x.2.2.2.1.length<=K/\∀ c∈x.2.2.2.1,0<=c/\c<(g.length:Int)) (hn:K+g.length+rt.length+201<=n):right n (g,rt)=some (true,()):=by
 unfold right;have e1:aR 20000 (len g)=false:=bC (by unfold len;omega);have e2:aR 20000 (len rt)=false:=bC (by unfold len;omega);simp only [e1,e2,zab];rw [D9 g rt rt hr (by omega) (by omega)];simp only [zaa,Bool.not_true,zab];have:=J7 g rt K hg hK hS hx g.length n 0 0 (by omega) (by simp) (by omega);rw [show ((0:Nat):Int)=0 from rfl] at this;rw [this];rfl
set_option maxRecDepth 100000
abbrev wg:=Int×g8
abbrev TX:=List UInt8
theorem fa {β:Type} (a:TX) (b:β) (r:List (TX×β)) (z:TX):gY .str ((a,b)::r) z=if z=a then some b else gY .str r z:=by
 show (bif (z==a) then some b else gY .str r z)=_
 by_cases h:z=a
 ·rw [if_pos h,beq_iff_eq.2 h];rfl
 ·rw [if_neg h,beq_eq_false_iff_ne.2 h];rfl
theorem yF {β:Type} (a:TX) (b:β) (r:List (TX×β)) (x:TX) (y:β):iW .str ((a,b)::r) x y=if x=a then (x,y)::r else (a,b)::iW .str r x y:=by
 show (bif (x==a) then (x,y)::r else (a,b)::iW .str r x y)=_
 by_cases h:x=a
 ·rw [if_pos h,beq_iff_eq.2 h];rfl
 ·rw [if_neg h,beq_eq_false_iff_ne.2 h];rfl
theorem yJ {β:Type} (x:TX) (y:β) (z:TX):∀ l:List (TX×β),gY .str (iW .str l x y) z=if z=x then some y else gY .str l z:=by
 intro l
 induction l with
 |nil=>exact fa x y [] z
 |cons p r ih=>
  obtain ⟨a,b⟩:=p;rw [yF];by_cases h:x=a
  ·subst h
   rw [if_pos rfl,fa,fa];by_cases h2:z=x
   ·rw [if_pos h2,if_pos h2]
   ·rw [if_neg h2,if_neg h2,if_neg h2]
  ·rw [if_neg h,fa,fa,ih]
   by_cases h2:z=a
   ·rw [if_pos h2,if_pos h2,if_neg (fun h3=>h (h3.symm.trans h2))]
   ·rw [if_neg h2,if_neg h2]
theorem JL {β:Type} (x:TX) (y:β):∀ l:List (TX×β),gY .str l x=none->(iW .str l x y).length=l.length+1/\∀ p∈iW .str l x y,p=(x,y)∨p∈l:=by
 intro l
 induction l with
 |nil=>intro _;exact ⟨rfl,fun p hp=>by cases hp with |head=>exact .inl rfl |tail _ h=>cases h⟩
 |cons p r ih=>
  obtain ⟨a,b⟩:=p;intro h;rw [fa] at h;split at h
  ·cases h
  ·rename_i h2
   obtain ⟨h3,h4⟩:=ih h;rw [yF,if_neg h2];refine ⟨by simp [h3],fun p hp=>?_⟩;rcases List.mem_cons.1 hp with rfl |hp
   ·exact .inr (List.mem_cons_self ..)
   ·rcases h4 p hp with h5 |h5
    ·exact .inl h5
    ·exact .inr (zak _ h5)
theorem NA {β:Type} {x:TX} {y:β}:∀ {l:List (TX×β)},gY .str l x=some y->(x,y)∈l:=by
 intro l
 induction l with
 |nil=>intro h;cases h
 |cons p r ih=>
  obtain ⟨a,b⟩:=p;intro h;rw [fa] at h;split at h
  ·rename_i h2;cases h;subst h2;exact List.mem_cons_self ..
  ·exact zak _ (ih h)
def Sm (t:List Int):Prop:=∀ y∈t,0<=y/\y<=1000
theorem Sm.set {t:List Int} (h:Sm t) {i:Nat} {y:Int} (h1:0<=y) (h2:y<=1000):Sm (t.set i y):=fun z hz=>by
 rcases List.mem_or_eq_of_mem_set hz with hz |rfl
 ·exact h z hz
 ·exact ⟨h1,h2⟩
theorem QZ (tx:List TX) (c0:List wg) (c1:List Int) (t39:Int) (hN:tx.length<=1000):∀ (k n i:Nat) (t3:List Int) (m:List (TX×Int)),i+k=tx.length->k<n->t3.length=tx.length->Sm t3->
  (∀ (j:Nat) x,j<i->tx[j]? =some x->∃ y,gY .str m x=some y/\t3[j]? =some y)->m.length<=i->(∀ p∈m,0<=p.2/\p.2<=1000)->
  ∃ t3' m',kA n t3 t39 (len tx) (i:Int) c0 c1 tx m=some (((),(t3',((),(t39,())))),((c0,(c1,())),(tx,(m',()))))/\t3'.length=tx.length/\Sm t3'/\
   ∀ (j:Nat) x,tx[j]? =some x->∃ y,gY .str m' x=some y/\t3'[j]? =some y:=by
 intro k
 induction k with
 |zero=>
  intro n i t3 m hi hn hl hs hm _ _;obtain ⟨n,rfl⟩:∃ q,n=q+1:=⟨n - 1,by omega⟩;refine ⟨t3,m,?_,hl,hs,fun j x hx=>hm j x ?_ hx⟩
  ·show (bif aR (i:Int) (len tx) then _ else _)=_
   rw [bC (by unfold len;omega)];rfl
  ·have:=(List.getElem?_eq_some_iff.1 hx).1;omega
 |succ k ih=>
  intro n i t3 m hi hn hl hs hm hml hmv;obtain ⟨n,rfl⟩:∃ q,n=q+1:=⟨n - 1,by omega⟩;have hil:i<tx.length:=by omega
  have hx:tx[i]? =some tx[i]:=zaj hil;have ht : t3[i]? = some (t3[i]'(by omega)) := zaj (by omega);have w1:zal ((i:Int)+1)=((i+1:Nat):Int):=by rw [bw (by omega) (by omega)];omega
  have e0:aQ (0:Int) (i:Int)=true:=bV (by omega);have e4:aR (i:Int) (len t3)=true:=bD (by unfold len;omega);have e3:aR (i:Int) (len tx)=true:=bD (by unfold len;omega)
  have stepB:∀ (m2:List (TX×Int)) (y:Int),gY .str m2 tx[i]=some y->0<=y->y<=1000->(∀ (j:Nat) x,j<i->tx[j]? =some x->∃ y,gY .str m2 x=some y/\t3[j]? =some y)->m2.length<=i+1->(∀ p∈m2,0<=p.2/\p.2<=1000)->
    ∃ t3' m',kA n (t3.set i y) t39 (len tx) ((i+1:Nat):Int) c0 c1 tx m2=some (((),(t3',((),(t39,())))),((c0,(c1,())),(tx,(m',()))))/\t3'.length=tx.length/\Sm t3'/\
     ∀ (j:Nat) x,tx[j]? =some x->∃ y,gY .str m' x=some y/\t3'[j]? =some y:=by
   intro m2 y q1 q2 q3 q4 q5 q6;refine ih n (i+1) (t3.set i y) m2 (by omega) (by omega) (by rw [List.length_set];exact hl) (hs.set q2 q3) (fun j x hj hx2=>?_) q5 q6;rcases Nat.lt_or_ge j i with hji |hji
   ·obtain ⟨z,h1,h2⟩:=q4 j x hji hx2
    exact ⟨z,h1,by rw [List.getElem?_set_ne (by omega)];exact h2⟩
   ·obtain rfl:j=i:=by omega
    rw [hx] at hx2;cases hx2;exact ⟨y,q1,by rw [List.getElem?_set_self (by omega)]⟩
  cases hg:gY .str m tx[i] with
  |none=>
   obtain ⟨r1,r2⟩:=JL tx[i] (len m) m hg;have hg2:gY .str (iW .str m tx[i] (len m)) tx[i]=some (len m):=by rw [yJ,if_pos rfl]
   have hb:len m<=1000:=by unfold len;omega
   obtain ⟨t3',m',h1,h2⟩:=stepB (iW .str m tx[i] (len m)) (len m) hg2 (by unfold len;omega) hb (fun j x hj hx2=>by
    obtain ⟨z,h1,h2⟩:=hm j x hj hx2;refine ⟨z,?_,h2⟩;rw [yJ];by_cases hq:x=tx[i]
    ·rw [hq,hg] at h1;cases h1
    ·rw [if_neg hq];exact h1) (by omega) (fun p hp=>by
    rcases r2 p hp with rfl |hp
    ·exact ⟨by simp only [len];omega,hb⟩
    ·exact hmv p hp)
   refine ⟨t3',m',?_,h2⟩;rw [←h1]
   conv=>lhs;unfold kA
   have a1:FJ .str m tx[i]=false:=by unfold FJ;rw [hg];rfl
   have a2:nV .str (iW .str m tx[i] (len m)) tx[i] (0:Int)=len m:=by unfold nV;rw [hg2];rfl
   simp only [e0,e3,e4,Bool.and_true,zac,Int.toNat_natCast,hx,zaa,a1,Bool.not_false,ht,w1,a2]
  |some y=>
   have hy:=hmv _ (NA hg);obtain ⟨t3',m',h1,h2⟩:=stepB m y hg hy.1 hy.2 hm (by omega) hmv;refine ⟨t3',m',?_,h2⟩;rw [←h1]
   conv=>lhs;unfold kA
   have a1:FJ .str m tx[i]=true:=by unfold FJ;rw [hg];rfl
   have a2:nV .str m tx[i] (0:Int)=y:=by unfold nV;rw [hg];rfl
   simp only [e0,e3,e4,Bool.and_true,zac,Int.toNat_natCast,hx,zaa,a1,Bool.not_true,zab,ht,w1,a2]
theorem iD (y:Int) (h1:0<=y) (h2:y<=1000):(Go.Lib.itoa y).length<=21:=Go.Lib.itoa_length_le y (by omega) (by omega)
theorem P1 (y:Int):(Go.Lib.itoa y).length≠0:=by
 have h:∀ u,(Go.Lib.decDigits u).length≠0:=fun u=>by
  rw [Go.Lib.decDigits];split<;>simp
 unfold Go.Lib.itoa;split
 ·simp
 ·exact h _
def ly (t3:List Int) (c:Int):Int:=(t3[c.toNat]?).getD 0
theorem vl {t3:List Int} (h:Sm t3) (c:Int):0<=ly t3 c/\ly t3 c<=1000:=by
 unfold ly;cases hq:t3[c.toNat]? with
 |none=>exact ⟨by simp,by simp⟩
 |some y=>exact h y (List.mem_of_getElem? hq)
def lg (t3:List Int) (l:List Int):TX:=l.flatMap fun c=>32::Go.Lib.itoa (ly t3 c)
def HE (t3:List Int) (j:Int) (l:List Int):TX:=Go.Lib.itoa (ly t3 j)++lg t3 l
theorem Nz {t3:List Int} (h:Sm t3):∀ l:List Int,(lg t3 l).length<=22*l.length:=by
 intro l
 induction l with
 |nil=>exact zai _
 |cons a l ih=>
  have e:lg t3 (a::l)=(32::Go.Lib.itoa (ly t3 a))++lg t3 l:=rfl;have:=iD _ (vl h a).1 (vl h a).2;rw [e,zaf,zad,zad];omega
theorem uX {y:Int} (h1:0<=y) (h2:y<=1000):Co y=true:=by unfold Co;rw [bV (by omega),bV (by omega)];rfl
theorem R2 (t3:List Int) (t4:List TX) (t12 t39 t70 t71:Int) (t69 c0:List wg) (c1 l:List Int) (hs:Sm t3) (hl:l.length<=100000) (hk:∀ c∈l,0<=c/\c<(t3.length:Int)):
  ∀ (k n i:Nat) (s:TX),i+k=l.length->k<n->s.length+22*k<=3000000->
   sF n t3 t4 t12 t39 t69 t70 t71 l (len l) (i:Int) c0 c1 s=some (((),(t3,(t4,(t12,((),(t39,(t69,(t70,(t71,()))))))))),((c0,(c1,())),(((),(s++lg t3 (l.drop i),())),()))):=by
 intro k
 induction k with
 |zero=>
  intro n i s hi hn _;obtain ⟨n,rfl⟩:∃ q,n=q+1:=⟨n - 1,by omega⟩
  conv=>lhs;unfold sF
  rw [bC (by unfold len;omega),zab,List.drop_eq_nil_of_le (by omega)]
  show _=some (((),(t3,(t4,(t12,((),(t39,(t69,(t70,(t71,()))))))))),((c0,(c1,())),(((),(s++ [],())),())))
  rw [List.append_nil]
 |succ k ih=>
  intro n i s hi hn hb;obtain ⟨n,rfl⟩:∃ q,n=q+1:=⟨n - 1,by omega⟩;have hil:i<l.length:=by omega
  have hx:l[i]? =some l[i]:=zaj hil;obtain ⟨k1,k2⟩:=hk l[i] (List.getElem_mem hil);have ht : t3[(l[i]).toNat]? = some (t3[(l[i]).toNat]'(by omega)) := zaj (by omega);have hc : ly t3 l[i] = t3[(l[i]).toNat]'(by omega) := by unfold ly; rw [ht]; rfl
  have hq:=vl hs l[i];rw [hc] at hq;have hlen:=iD _ hq.1 hq.2;have w1:zal ((i:Int)+1)=((i+1:Nat):Int):=by rw [bw (by omega) (by omega)];omega
  have e0:aQ (0:Int) (i:Int)=true:=bV (by omega);have e1:aR (i:Int) (len l)=true:=bD (by unfold len;omega);have e2:aQ (0:Int) l[i]=true:=bV k1;have e3:aR l[i] (len t3)=true:=bD k2;have r1:room ((s.length+(List.length ((32:UInt8)::([]:List UInt8))))*2)=true:=u7 (by simp only [zad,List.length_nil];unfold roomy;omega);have r2 : room (((s ++ ((32 : UInt8) :: ([] : List UInt8))).length + (Go.Lib.itoa (t3[(l[i]).toNat]'(by omega))).length) * 2) = true := u7 (by simp only [zaf, List.length_cons, List.length_nil]; unfold roomy; omega)
  conv=>lhs;unfold sF
  simp only [e1,zac,e0,Int.toNat_natCast,hx,zaa,r1,e2,e3,Bool.and_true,ht,uX hq.1 hq.2,r2,w1];rw [ih n (i+1) _ (by omega) (by omega) (by simp only [zaf,zad,List.length_nil];omega)];have : lg t3 (l.drop i) = (32 :: Go.Lib.itoa (t3[(l[i]).toNat]'(by omega))) ++ lg t3 (l.drop (i + 1)) := by
   rw [List.drop_eq_getElem_cons hil,←hc];rfl
  rw [this];simp
theorem Qg (g1:List wg) (t3:List Int) (t39:Int) (c1:List Int) (hN:g1.length<=1000) (hs:Sm t3) (h3:t3.length=g1.length) (hk:∀ x∈g1,x.2.2.2.1.length<=100000/\∀ c∈x.2.2.2.1,0<=c/\c<(g1.length:Int)):
  ∀ (k n i:Nat) (t4:List TX),i+k=g1.length->k+100010<n->t4.length=g1.length->(∀ (j:Nat) x,j<i->g1[j]? =some x->t4[j]? =some (HE t3 (j:Int) x.2.2.2.1))->
   ∃ t4',lN n t3 t4 t39 g1 (len g1) (i:Int) g1 c1=some (((),(t3,(t4',(t39,())))),((g1,(c1,())),()))/\t4'.length=g1.length/\∀ (j:Nat) x,g1[j]? =some x->t4'[j]? =some (HE t3 (j:Int) x.2.2.2.1):=by
 intro k
 induction k with
 |zero=>
  intro n i t4 hi hn hl hd;obtain ⟨n,rfl⟩:∃ q,n=q+1:=⟨n - 1,by omega⟩;refine ⟨t4,?_,hl,fun j x hx=>hd j x (by have:=(List.getElem?_eq_some_iff.1 hx).1;omega) hx⟩
  conv=>lhs;unfold lN
  rw [bC (by unfold len;omega),zab]
 |succ k ih=>
  intro n i t4 hi hn hl hd;obtain ⟨n,rfl⟩:∃ q,n=q+1:=⟨n - 1,by omega⟩;have hil:i<g1.length:=by omega
  have hx:g1[i]? =some g1[i]:=zaj hil;have ht : t3[i]? = some (t3[i]'(by omega)) := zaj (by omega);have h4 : t4[i]? = some (t4[i]'(by omega)) := zaj (by omega);obtain ⟨k1,k2⟩:=hk _ (List.getElem_mem hil);have hc : ly t3 (i : Int) = t3[i]'(by omega) := by unfold ly; rw [Int.toNat_natCast, ht]; rfl
  have hq:=vl hs (i:Int);rw [hc] at hq;have hlen:=iD _ hq.1 hq.2;have htl:=Nz hs g1[i].2.2.2.1;have w1:zal ((i:Int)+1)=((i+1:Nat):Int):=by rw [bw (by omega) (by omega)];omega
  have e0:aQ (0:Int) (i:Int)=true:=bV (by omega);have e1:aR (i:Int) (len g1)=true:=bD (by unfold len;omega);have e3:aR (i:Int) (len t3)=true:=bD (by unfold len;omega);have e4:aR (i:Int) (len t4)=true:=bD (by unfold len;omega);have r1 : room ((Go.Lib.itoa (t3[i]'(by omega))).length * 2) = true := u7 (by unfold roomy; omega);have hloop := R2 t3 t4 (i : Int) t39 (len g1) (i : Int) g1 g1 c1 g1[i].2.2.2.1 hs k1 (fun c hc => by rw [h3]; exact k2 c hc) g1[i].2.2.2.1.length (n + 1) 0 (Go.Lib.itoa (t3[i]'(by omega))) (by omega) (by omega) (by omega);rw [List.drop_zero] at hloop;have hlb : Go.Lib.itoa (t3[i]'(by omega)) ++ lg t3 g1[i].2.2.2.1 = HE t3 (i : Int) g1[i].2.2.2.1 := by unfold HE; rw [hc]
  rw [hlb] at hloop;have hll:(HE t3 (i:Int) g1[i].2.2.2.1).length<=3000000:=by unfold HE;rw [hc,zaf];omega
  have hne:(HE t3 (i:Int) g1[i].2.2.2.1).isEmpty=false:=by
   have := P1 (t3[i]'(by omega));unfold HE;rw [hc];cases hq2 : Go.Lib.itoa (t3[i]'(by omega)) with
   |nil=>rw [hq2] at this;exact absurd rfl this
   |cons a r=>rfl
  have e5:aQ (len (HE t3 (i:Int) g1[i].2.2.2.1)) (len (HE t3 (i:Int) g1[i].2.2.2.1))=true:=bV (Int.le_refl _);have e6:aQ (len (HE t3 (i:Int) g1[i].2.2.2.1)) (1099511627776:Int)=true:=bV (by unfold len;omega);have e7:List.take (Int.toNat (len (HE t3 (i:Int) g1[i].2.2.2.1))) (HE t3 (i:Int) g1[i].2.2.2.1)=HE t3 (i:Int) g1[i].2.2.2.1:=by unfold len;rw [Int.toNat_natCast,List.take_length]
  obtain ⟨t4',q1,q2,q3⟩:=ih n (i+1) (t4.set i (HE t3 (i:Int) g1[i].2.2.2.1)) (by omega) (by omega) (by rw [List.length_set];exact hl) (fun j x hj hxx=>by
   rcases Nat.lt_or_ge j i with hji |hji
   ·rw [List.getElem?_set_ne (by omega)];exact hd j x hji hxx
   ·obtain rfl:j=i:=by omega
    rw [hx] at hxx;cases hxx;rw [List.getElem?_set_self (by omega)])
  refine ⟨t4',?_,q2,q3⟩;rw [←q1]
  conv=>lhs;unfold lN
  simp only [e1,zac,e0,Int.toNat_natCast,hx,zaa,e3,Bool.and_true,ht,uX hq.1 hq.2,r1];rw [show ((0:Int))=((0:Nat):Int) from rfl,hloop];simp only [zaa,hne,zab,e5,e6,Bool.and_true,zac,e0,e4,Int.toNat_natCast,h4,e7,w1];rfl
def VV {α:Type} (R:Nat->Nat->Prop) (t:List α):Prop:=∀ i j,R i j->t[i]? =t[j]?
structure Xg (g1:List wg) (ow:wg->TX) (R:Nat->Nat->Prop):Prop where
 ix:∀ i j,R i j->i<g1.length/\j<g1.length
 ow:∀ i j x y,R i j->g1[i]? =some x->g1[j]? =some y->ow x=ow y/\x.2.2.2.1.length=y.2.2.2.1.length/\∀ q∈x.2.2.2.1.zip y.2.2.2.1,R q.1.toNat q.2.toNat
theorem Q3 {t3:List Int}:∀ {l k:List Int},l.length=k.length->(∀ q∈l.zip k,t3[q.1.toNat]? =t3[q.2.toNat]?)->lg t3 l=lg t3 k:=by
 intro l
 induction l with
 |nil=>intro k hl _;cases k with |nil=>rfl |cons _ _=>cases hl
 |cons a l ih=>
  intro k hl h;cases k with
  |nil=>cases hl
  |cons b k=>
   have h1:ly t3 a=ly t3 b:=by unfold ly;rw [h (a,b) (by simp)]
   have h2:=ih (k:=k) (by simpa using hl) (fun q hq=>h q (by rw [List.zip_cons_cons];exact zak _ hq))
   show (32::Go.Lib.itoa (ly t3 a))++lg t3 l=(32::Go.Lib.itoa (ly t3 b))++lg t3 k
   rw [h1,h2]
theorem TW (g1:List wg) (c1:List Int) (ow:wg->TX) (R:Nat->Nat->Prop) (hR:Xg g1 ow R) (hN:g1.length<=1000) (hk:∀ x∈g1,x.2.2.2.1.length<=100000/\∀ c∈x.2.2.2.1,0<=c/\c<(g1.length:Int)):
  ∀ (r n i:Nat) (t3:List Int) (t4:List TX),i+r=4->r+102000<n->t3.length=g1.length->Sm t3->t4.length=g1.length->(r=0->VV R t3)->VV R t4->
   ∃ t3',wa n t3 t4 (i:Int) g1 c1=some ((t3',()),((g1,(c1,())),()))/\t3'.length=g1.length/\VV R t3':=by
 intro r
 induction r with
 |zero=>
  intro n i t3 t4 hi hn h3 _ _ h0 _;obtain ⟨n,rfl⟩:∃ q,n=q+1:=⟨n - 1,by omega⟩;refine ⟨t3,?_,h3,h0 rfl⟩
  conv=>lhs;unfold wa
  rw [bC (by omega),zab]
 |succ r ih=>
  intro n i t3 t4 hi hn h3 hs h4 _ hw;obtain ⟨n,rfl⟩:∃ q,n=q+1:=⟨n - 1,by omega⟩;obtain ⟨t3',m',a1,a2,a3,a4⟩:=QZ t4 g1 c1 (i:Int) (by omega) t4.length (n+3) 0 t3 [] (by omega) (by omega) (by omega) hs (fun j x hj=>absurd hj (by omega)) (zai _) (fun p hp=>by cases hp);have w3:VV R t3':=by
   intro j k hjk;obtain ⟨x1,x2⟩:=hR.ix j k hjk;have e1 : t4[j]? = some (t4[j]'(by omega)) := zaj (by omega);obtain ⟨y,y1,y2⟩:=a4 j _ e1;obtain ⟨z,z1,z2⟩:=a4 k _ ((hw j k hjk).symm.trans e1);rw [y1] at z1;cases z1;rw [y2,z2]
  obtain ⟨t4',b1,b2,b3⟩:=Qg g1 t3' (i:Int) c1 hN a3 (by omega) hk g1.length (n+1) 0 t4 (by omega) (by omega) h4 (fun j x hj=>absurd hj (by omega));have w4:VV R t4':=by
   intro j k hjk;obtain ⟨x1,x2⟩:=hR.ix j k hjk;have e1 : g1[j]? = some (g1[j]'x1) := zaj x1;have e2 : g1[k]? = some (g1[k]'x2) := zaj x2;obtain ⟨o1,o2,o3⟩:=hR.ow j k _ _ hjk e1 e2;rw [b3 j _ e1,b3 k _ e2];have c1:ly t3' (j:Int)=ly t3' (k:Int):=by unfold ly;rw [Int.toNat_natCast,Int.toNat_natCast,w3 j k hjk]
   unfold HE;rw [c1,Q3 o2 (fun q hq=>w3 _ _ (o3 q hq))]
  have w1:zal ((i:Int)+1)=((i+1:Nat):Int):=by rw [bw (by omega) (by omega)];omega
  obtain ⟨t3'',q1,q2,q3⟩:=ih n (i+1) t3' t4' (by omega) (by omega) (by omega) a3 b2 (fun _=>w3) w4;refine ⟨t3'',?_,q2,q3⟩;rw [←q1]
  conv=>lhs;unfold wa
  have e:aR (i:Int) (4:Int)=true:=bD (by omega);have a1':kA (n+3) t3 (i:Int) (len t4) 0 g1 c1 t4 []=_:=a1;have b1':lN (n+1) t3' t4 (i:Int) g1 (len g1) 0 g1 c1=_:=b1;simp only [e,zac,a1',zaa,b1',w1]
theorem UM (g1:List wg) (c1:List Int) (t3:List Int) (ow:wg->TX) (hN:g1.length<=1000) (ho:∀ x∈g1,∀ n,60000<=n->own n x=some (ow x,())):
  ∀ (k n i:Nat) (t4:List TX),i+k=g1.length->k+60000<n->t4.length=g1.length->(∀ (j:Nat) x,j<i->g1[j]? =some x->t4[j]? =some (ow x))->
   ∃ t4',yy n t3 t4 g1 (len g1) (i:Int) g1 c1=some (((),(t3,(t4',()))),((g1,(c1,())),()))/\t4'.length=g1.length/\∀ (j:Nat) x,g1[j]? =some x->t4'[j]? =some (ow x):=by
 intro k
 induction k with
 |zero=>
  intro n i t4 hi hn hl hd;obtain ⟨n,rfl⟩:∃ q,n=q+1:=⟨n - 1,by omega⟩;refine ⟨t4,?_,hl,fun j x hx=>hd j x (by have:=(List.getElem?_eq_some_iff.1 hx).1;omega) hx⟩
  conv=>lhs;unfold yy
  rw [bC (by unfold len;omega),zab]
 |succ k ih=>
  intro n i t4 hi hn hl hd;obtain ⟨n,rfl⟩:∃ q,n=q+1:=⟨n - 1,by omega⟩;have hil:i<g1.length:=by omega
  have hx:g1[i]? =some g1[i]:=zaj hil;have h4 : t4[i]? = some (t4[i]'(by omega)) := zaj (by omega);have w1:zal ((i:Int)+1)=((i+1:Nat):Int):=by rw [bw (by omega) (by omega)];omega
  have e0:aQ (0:Int) (i:Int)=true:=bV (by omega);have e1:aR (i:Int) (len g1)=true:=bD (by unfold len;omega);have e4:aR (i:Int) (len t4)=true:=bD (by unfold len;omega);obtain ⟨t4',q1,q2,q3⟩:=ih n (i+1) (t4.set i (ow g1[i])) (by omega) (by omega) (by rw [List.length_set];exact hl) (fun j x hj hxx=>by
   rcases Nat.lt_or_ge j i with hji |hji
   ·rw [List.getElem?_set_ne (by omega)];exact hd j x hji hxx
   ·obtain rfl:j=i:=by omega
    rw [hx] at hxx;cases hxx;rw [List.getElem?_set_self (by omega)])
  refine ⟨t4',?_,q2,q3⟩;rw [←q1]
  conv=>lhs;unfold yy
  simp only [e1,zac,e0,Int.toNat_natCast,hx,zaa,ho _ (List.getElem_mem hil) (n+1) (by omega),e4,Bool.and_true,h4,w1]
theorem Fb (n:Nat) (hn:103000<=n) (g1:List wg) (c1:List Int) (ow:wg->TX) (R:Nat->Nat->Prop) (hR:Xg g1 ow R) (hN:g1.length<=1000) (ho:∀ x∈g1,∀ n,60000<=n->own n x=some (ow x,()))
  (hk:∀ x∈g1,x.2.2.2.1.length<=100000/\∀ c∈x.2.2.2.1,0<=c/\c<(g1.length:Int)):∃ c,B0 n (g1,c1)=some (c,())/\c.length=g1.length/\VV R c:=by
 have e1:aQ (len g1) (len g1)=true:=bV (Int.le_refl _);have e2:aQ ((len g1)*(9:Int)) (1099511627776:Int)=true:=bV (by unfold len;omega);have e3:aQ ((len g1)*(17:Int)) (1099511627776:Int)=true:=bV (by unfold len;omega);have e4:Int.toNat (len g1)=g1.length:=by unfold len;exact Int.toNat_natCast _
 obtain ⟨t4,a1,a2,a3⟩:=UM g1 c1 (List.replicate g1.length 0) ow hN ho g1.length n 0 (List.replicate g1.length []) (by omega) (by omega) (by simp) (fun j x hj=>absurd hj (by omega));have w4:VV R t4:=by
  intro j k hjk;obtain ⟨x1,x2⟩:=hR.ix j k hjk;have e1 : g1[j]? = some (g1[j]'x1) := zaj x1;have e2 : g1[k]? = some (g1[k]'x2) := zaj x2;rw [a3 j _ e1,a3 k _ e2,(hR.ow j k _ _ hjk e1 e2).1]
 obtain ⟨c,b1,b2,b3⟩:=TW g1 c1 ow R hR hN hk 4 (n+1) 0 (List.replicate g1.length 0) t4 rfl (by omega) (by simp) (fun y hy=>by rw [(List.mem_replicate.1 hy).2];omega) a2 (fun h=>by cases h) w4;refine ⟨c,?_,b2,b3⟩;unfold B0;have a1':yy n (List.replicate g1.length 0) (List.replicate g1.length []) g1 (len g1) 0 g1 c1=_:=a1;have b1':wa (n+1) (List.replicate g1.length 0) t4 0 g1 c1=_:=b1;simp only [e1,e2,e3,Bool.and_true,zac,e4,a1',zaa,b1']
set_option maxRecDepth 10000
def De:List UInt8:= [116,97,103,58,121,97,109,108,46,111,114,103,44,50,48,48,50,58,110,117,108,108]
def uF (p:List UInt8):List UInt8:=if p= [] then De else B9
def SH (p:List UInt8):Prop:=p= []∨p= [97]
def rs (p:List UInt8) (x:sH):sH:=(x.1,((bif x.1==2 then fX else uF p),x.2.2))
theorem XF (n:Nat) (l:List Int) (h:100<=n):iC n (mz l).1 (mz l).2.1 (mz l).2.2.1 (mz l).2.2.2.2 2=some (fX,()):=by
 obtain ⟨m,rfl⟩:∃ m,n=m+100:=⟨n - 100,by omega⟩;rfl
theorem W0 (m:Nat):iC (m+300) 1 [] [97] true 2=some (B9,()):=by kernel_rfl
theorem Xj (m:Nat):iC (m+300) 1 [] [] true 2=some (De,()):=by kernel_rfl
theorem Xx (n:Nat) (p:List UInt8) (hp:SH p) (h:300<=n):iC n (yV p).1 (yV p).2.1 (yV p).2.2.1 (yV p).2.2.2.2 2=some (uF p,()):=by
 obtain ⟨m,rfl⟩:∃ m,n=m+300:=⟨n - 300,by omega⟩;rcases hp with rfl |rfl
 ·exact Xj m
 ·exact W0 m
theorem It (t1:Int) (c1:List Int) (g:List sH) (R:sH->List UInt8) (hg:g.length<10000) (hR:∀ x∈g,∀ n,300<=n->iC n x.1 x.2.1 x.2.2.1 x.2.2.2.2 t1=some (R x,())):∀ (b a:List sH) (n:Nat),(∀ x∈b,x∈g)->a.length+b.length=g.length->b.length+301<=n->
  Aj n t1 (len g) (a.length:Int) c1 (a++b)=some (((),((),())),(((),(c1,())),(((),((),())),(a++b.map fun x=>(x.1,(R x,x.2.2)),())))):=by
 intro b
 induction b with
 |nil=>
  intro a n _ h hn;obtain ⟨m,rfl⟩:∃ m,n=m+1:=⟨n - 1,by omega⟩;simp at h;rw [Aj];exact cF (UI g a.length (by omega)) rfl
 |cons x b ih=>
  intro a n hb h hn;obtain ⟨m,rfl⟩:∃ m,n=m+1:=⟨n - 1,by omega⟩;simp at h hn;have hlt:a.length<(a++x::b).length:=by simp
  have e1:((aQ (0:Int) (a.length:Int)) &&(aR (a.length:Int) (len (a++x::b))))=true:=by rw [nn,dn _ _ hlt];rfl
  have e2:(a++x::b)[Int.toNat (a.length:Int)]? =some x:=by simp
  rw [Aj];refine cT (dn g a.length (by omega)) ?_;refine cT e1 ?_;refine bS e2 ?_;refine bS (hR x (hb x (List.mem_cons_self ..)) _ (by omega)) ?_;refine cT e1 ?_;refine bS e2 ?_;have e3:List.set (a++x::b) (Int.toNat (a.length:Int)) (x.1,(R x,(x.2.2.1,(x.2.2.2.1,x.2.2.2.2))))=(a++ [(x.1,(R x,x.2.2))])++b:=by simp
  rw [e3,AB a.length (by omega)];have:=ih (a++ [(x.1,(R x,x.2.2))]) m (fun y hy=>hb y (zak _ hy)) (by simp;omega) (by omega);rw [show (a++ [(x.1,(R x,x.2.2))]).length=a.length+1 by simp] at this;rw [this];simp
theorem R7 (k m:Nat) (p:List UInt8) (x:sH) (hx:x∈tr k m p):(∃ l,x=mz l/\l.length<=m+1/\∀ c∈l,0<=c/\c<((k+1+m:Nat):Int))∨x=yV p:=by
 simp only [tr,pre,List.mem_append,List.mem_map,List.mem_range,List.mem_cons,List.mem_replicate] at hx;rcases hx with ⟨q,hq,rfl⟩ |rfl |⟨_,rfl⟩
 ·exact .inl ⟨_,rfl,by simp,fun c hc=>by simp at hc;omega⟩
 ·refine .inl ⟨_,rfl,by rw [wb];omega,fun c hc=>?_⟩
  simp only [fg,List.mem_map,List.mem_range] at hc;obtain ⟨t,ht,rfl⟩:=hc;omega
 ·exact .inr rfl
def Am (k m:Nat) (p:List UInt8):List sH:=(tr k m p).map fun x=>(x.1,((bif x.1==2 then fX else uF p),x.2.2))
theorem zm (k m:Nat) (p:List UInt8) (hp:SH p) (hk:k<300) (hm:m<300) (n:Nat) (hn:2000<=n):resolved n (tr k m p,[0]) 2=some ((Am k m p,[0]),()):=by
 have hl:=mI k m p;have:=It 2 [0] (tr k m p) (fun x=>bif x.1==2 then fX else uF p) (by omega) (fun x hx n hn=>by
  rcases R7 k m p x hx with ⟨l,rfl,_,_⟩ |rfl
  ·exact XF n l (by omega)
  ·exact Xx n p hp hn) (tr k m p) [] n (fun x hx=>hx) (by simp) (by omega)
 unfold resolved;refine cT (by show (!(List.isEmpty (tr k m p)))=true;rw [show List.isEmpty (tr k m p)=false from by cases h:tr k m p with |nil=>(rw [h] at hl;simp at hl;omega) |cons a b=>rfl];rfl) ?_;refine cT (cr (by simp;omega)) ?_;refine bS this ?_;rfl
theorem qd (k m:Nat) (p:List UInt8):(Am k m p).length=k+1+m:=by simp [Am,mI]
theorem pL (k m:Nat) (p:List UInt8) (x:sH) (hx:x∈Am k m p):(∃ l,x=(2,(fX,([],(l,false))))/\l.length<=m+1/\∀ c∈l,0<=c/\c<((k+1+m:Nat):Int))∨x=(1,(uF p,(p,([],true)))):=by
 unfold Am at hx;rw [List.mem_map] at hx;obtain ⟨y,hy,rfl⟩:=hx;rcases R7 k m p y hy with ⟨l,rfl,h1,h2⟩ |rfl
 ·exact .inl ⟨l,rfl,h1,h2⟩
 ·exact .inr rfl
theorem Wm (m:Nat):node (m+150) (1,(B9,([97],([],true))))=some (true,()):=by kernel_rfl
theorem VY (m:Nat):node (m+150) (1,(De,([],([],true))))=some (true,()):=by kernel_rfl
theorem VN (n:Nat) (p:List UInt8) (hp:SH p) (h:200<=n):node n (1,(uF p,(p,([],true))))=some (true,()):=by
 obtain ⟨m,rfl⟩:∃ m,n=m+150:=⟨n - 150,by omega⟩;rcases hp with rfl |rfl
 ·exact VY m
 ·exact Wm m
theorem Qk (f:sH->sH) (h:∀ x,(f x).2.2.2.1=x.2.2.2.1) (l:List sH):jV (l.map f)=jV l:=by
 induction l with
 |nil=>rfl
 |cons x r ih=>simp [jV,ih,h]
theorem O3 (m:Nat) (p:List UInt8):jV (List.replicate m (yV p))=0:=by
 induction m with
 |zero=>rfl
 |succ m ih=>rw [List.replicate_succ];exact (Nat.zero_add _).trans ih
theorem QX (k:Nat):jV (pre k)=k:=by
 induction k with
 |zero=>rfl
 |succ k ih=>rw [DY,tT,ih];rfl
theorem UJ (k m:Nat) (p:List UInt8):jV (Am k m p)=k+m:=by
 unfold Am;rw [Qk (fun x=>(x.1,((bif x.1==2 then fX else uF p),x.2.2))) (fun x=>rfl)];unfold tr;rw [tT,QX]
 show k+((fg (k+1) m).length+jV (List.replicate m (yV p)))=k+m
 rw [wb,O3];rfl
theorem GQ (k m:Nat) (p:List UInt8) (hp:SH p) (hk:k<300) (hm:m<300) (n:Nat) (hn:2000<=n):right n (Am k m p,[0])=some (true,()):=by
 have hl:=qd k m p;refine I7 (Am k m p) [0] 400 (by omega) (by omega) (by rw [UJ];omega) (fun c hc=>by simp at hc;omega) (by simp) (fun j x hj=>?_) (by simp;omega);rcases pL k m p x (List.mem_of_getElem? hj) with ⟨l,rfl,h1,h2⟩ |rfl
 ·exact ⟨fun n hn=>Oz (by omega) l,by show l.length<=400;omega,fun c hc=>by have:=h2 c hc;omega⟩
 ·exact ⟨fun n hn=>VN n p hp hn,by show 0<=400;omega,fun c hc=>by cases hc⟩
theorem XM (m:Nat):lB (m+300) B9 [97]=some ((5,(false,((false,([],(0,0))),[97]))),(0,())):=by kernel_rfl
theorem Xs (m:Nat):lB (m+300) De []=some ((1,(false,((false,([],(0,0))),[]))),(0,())):=by kernel_rfl
theorem Vh (n:Nat) (p:List UInt8) (hp:SH p) (h:300<=n):∃ v,lB n (uF p) p=some (v,(0,()))/\(v.1=5∨v.1=1)/\v.2.2.2=p:=by
 obtain ⟨m,rfl⟩:∃ m,n=m+300:=⟨n - 300,by omega⟩;rcases hp with rfl |rfl
 ·exact ⟨_,Xs m,.inr rfl,rfl⟩
 ·exact ⟨_,XM m,.inl rfl,rfl⟩
theorem JZ (g:List sH) (hg:g.length<10000) (h:∀ x∈g,x.1≠1∨∀ n,300<=n->∃ v,lB n x.2.1 x.2.2.1=some (v,(0,()))):∀ (k n i:Nat),i+k=g.length->k+301<=n->vC n g (len g) (i:Int)=some ((),()):=by
 intro k
 induction k with
 |zero=>
  intro n i hi hn;obtain ⟨m,rfl⟩:∃ m,n=m+1:=⟨n - 1,by omega⟩;rw [vC];exact cF (UI g i (by omega)) rfl
 |succ k ih=>
  intro n i hi hn;obtain ⟨m,rfl⟩:∃ m,n=m+1:=⟨n - 1,by omega⟩;have hlt:i<g.length:=by omega
  have e2:g[Int.toNat (i:Int)]? =some g[i]:=zaj hlt;have hx:=h _ (List.getElem_mem hlt);generalize g[i]=x at e2 hx;rw [vC];refine cT (dn g i hlt) ?_;refine cT (nn i) ?_;refine bS e2 ?_;rw [AB i (by omega)];by_cases h1:x.1=1
  ·refine cF (by rw [h1];rfl) ?_
   rcases hx with hx |hx
   ·exact absurd h1 hx
   ·obtain ⟨v,hv⟩:=hx (m+1) (by omega)
    refine bS hv ?_;refine cF rfl ?_;exact ih m (i+1) (by omega) (by omega)
  ·refine cT (show (x.1 !=(1:Int))=true by simpa using h1) ?_
   exact ih m (i+1) (by omega) (by omega)
theorem Mq (k m:Nat) (p:List UInt8) (hp:SH p) (hk:k<300) (hm:m<300) (n:Nat) (hn:2000<=n):uY n (Am k m p,[0])=some ((0:Int),()):=by
 have hl:=qd k m p;unfold uY;refine bS (JZ (Am k m p) (by omega) (fun x hx=>?_) _ n 0 (Nat.zero_add _) (by omega)) ?_
 ·rcases pL k m p x hx with ⟨l,rfl,_,_⟩ |rfl
  ·exact .inl (show (2:Int)≠1 by decide)
  ·refine .inr (fun n hn=>?_)
   obtain ⟨v,hv,_⟩:=Vh n p hp hn;exact ⟨v,hv⟩
 ·rfl
def Vp (x:sH):List UInt8:=(((((Go.Lib.itoa x.1)++([32]:List UInt8))++(Go.Lib.itoa (len x.2.2.2.1)))++([32]:List UInt8))++x.2.1)++([10]:List UInt8)
def Ze (p:List UInt8) (x:sH):List UInt8:=bif x.1==2 then Vp x else Vp x++p
theorem LU (n:Nat) (x:sH) (r:Option (List UInt8×Unit)) (h1:0<=x.1) (h2:x.1<=1000) (h3:x.2.2.2.1.length<=1000) (h4:x.2.1.length<=100)
  (h:(bif (x.1 !=(1:Int)) then some (Vp x,()) else
   Option.bind (lB n x.2.1 x.2.2.1) fun y0=>
   bif (y0.2.1 !=(0:Int)) then none else
   Option.bind (bif (y0.1.1==(3:Int)) then none else some (y0.1.1==(4:Int))) fun b2=>
   bif b2 then none else
   bif (y0.1.1==(2:Int)) then none else
   bif (room ((List.length (Vp x))+(List.length y0.1.2.2.2))) then
   some ((Vp x++y0.1.2.2.2),())
   else none)=r):own n x=r:=by
 have b1:=iD x.1 h1 h2;have b2:=iD (len x.2.2.2.1) (by unfold len;omega) (by unfold len;omega);unfold own;refine cT (uX h1 h2) ?_;refine cT (cr (by simp;omega)) ?_;refine cT (uX (by unfold len;omega) (by unfold len;omega)) ?_;refine cT (cr (by simp;omega)) ?_;refine cT (cr (by simp;omega)) ?_;refine cT (cr (by simp;omega)) ?_;refine cT (cr (by simp;omega)) ?_;exact h
theorem WM (k m:Nat) (p:List UInt8) (hp:SH p) (hm:m<300) (x:sH) (hx:x∈Am k m p) (n:Nat) (hn:300<=n):own n x=some (Ze p x,()):=by
 have hpl:p.length<=1:=by rcases hp with rfl |rfl<;>simp
 have hpt:(uF p).length<=30:=by rcases hp with rfl |rfl<;>decide
 rcases pL k m p x hx with ⟨l,rfl,h1,_⟩ |rfl
 ·refine LU n _ _ (show (0:Int)<=2 by decide) (show (2:Int)<=1000 by decide) (by show l.length<=1000;omega) (by show fX.length<=100;decide) ?_
  exact cT rfl rfl
 ·refine LU n _ _ (show (0:Int)<=1 by decide) (show (1:Int)<=1000 by decide) (by show 0<=1000;omega) (by show (uF p).length<=100;omega) ?_
  refine cF rfl ?_;obtain ⟨v,hv,h5,h6⟩:=Vh n p hp hn;refine bS hv ?_;refine cF rfl ?_;have q1:(v.1==(3:Int))=false:=by rcases h5 with h |h<;>(rw [h];rfl)
  have q2:(v.1==(4:Int))=false:=by rcases h5 with h |h<;>(rw [h];rfl)
  have q3:(v.1==(2:Int))=false:=by rcases h5 with h |h<;>(rw [h];rfl)
  refine bS (cF q1 (by rw [q2])) ?_;refine cF rfl ?_;refine cF q3 ?_;have b1:=iD 1 (by omega) (by omega);have b2:=iD (len ([]:List Int)) (by decide) (by decide)
  show (bif (room ((List.length (Vp (1,(uF p,(p,([],true))))))+(List.length v.2.2.2))) then some ((Vp (1,(uF p,(p,([],true))))++v.2.2.2),()) else none)=_
  rw [h6];refine cT (cr (by unfold Vp;simp only [zaf,zad,List.length_nil];omega)) ?_;rfl
theorem Iw (t4:List Int) (g:List sH) (c0:List sH) (c1:List Int) (hg:g.length<10000) (h:∀ x∈g,x.1≠3):∀ (k n i:Nat),i+k=g.length->k<n->zM n t4 g (len g) (i:Int) c0 c1=some ((),((c0,(c1,())),())):=by
 intro k
 induction k with
 |zero=>
  intro n i hi hn;obtain ⟨m,rfl⟩:∃ m,n=m+1:=⟨n - 1,by omega⟩;rw [zM];exact cF (UI g i (by omega)) rfl
 |succ k ih=>
  intro n i hi hn;obtain ⟨m,rfl⟩:∃ m,n=m+1:=⟨n - 1,by omega⟩;have hlt:i<g.length:=by omega
  rw [zM];refine cT (dn g i hlt) ?_;refine cT (nn i) ?_;refine bS (show g[Int.toNat (i:Int)]? =some g[i] from zaj hlt) ?_;refine cF (by have:=h _ (List.getElem_mem hlt);simpa using this) ?_;rw [AB i (by omega)];exact ih m (i+1) (by omega) (by omega)
theorem Ig (k m:Nat) (p:List UInt8) (hp:SH p) (hk:k<300) (hm:m<300) (n:Nat) (hn:200000<=n):checked n (Am k m p,[0])=some ((0:Int),()):=by
 have hl:=qd k m p;unfold checked;refine bS (GQ k m p hp hk hm (n+1) (by omega)) ?_;refine cF rfl ?_;refine bS (Mq k m p hp hk hm (n+6) (by omega)) ?_;refine cF rfl ?_;refine bS (v:=((0:Int),(false,()))) ?_ rfl;unfold P2;refine bS (GQ k m p hp hk hm n (by omega)) ?_;refine cF rfl ?_;obtain ⟨c,hc,_⟩:=Fb (n+4) (by omega) (Am k m p) [0] (Ze p) (fun _ _=>False) ⟨fun _ _ h=>h.elim,fun _ _ _ _ h=>h.elim⟩ (by omega) (fun x hx n hn=>WM k m p hp hm x hx n (by omega)) (fun x hx=>by
  rcases pL k m p x hx with ⟨l,rfl,h1,h2⟩ |rfl
  ·exact ⟨by show l.length<=100000;omega,fun c hc=>by have:=h2 c hc;omega⟩
  ·exact ⟨by show 0<=100000;omega,fun c hc=>by cases hc⟩)
 refine bS hc ?_;refine bS (Iw c (Am k m p) (Am k m p) [0] (by omega) (fun x hx=>by
  rcases pL k m p x hx with ⟨l,rfl,_,_⟩ |rfl
  ·show (2:Int)≠3;decide
  ·show (1:Int)≠3;decide) _ (n+8) 0 (Nat.zero_add _) (by omega)) ?_
 rfl
set_option maxRecDepth 10000
theorem Qi (a b:Int) (h:a<=b):uB a b=a:=by
 unfold uB;rw [bC (by omega)];rfl
theorem UF (b:Int) (h0:0<=b) (h1:b<=1048576):(bif (aR (1048576:Int) (bif (aR (0:Int) b) then b else (0:Int))) then (1048576:Int) else (bif (aR (0:Int) b) then b else (0:Int)))=b:=by
 have e:(bif (aR (0:Int) b) then b else (0:Int))=b:=by
  by_cases h:0<b
  ·rw [bD h];rfl
  ·rw [bC (by omega)];show (0:Int)=b;omega
 rw [e,bC (by omega)];rfl
theorem R4 (j m:Nat) (f:Bool) (p:List UInt8):∀ x∈body j m f p,x.2.2.1= []:=by
 intro x hx;simp only [body,List.mem_append,List.mem_replicate] at hx;rcases hx with ⟨_,rfl⟩ |⟨_,rfl⟩ |⟨_,rfl⟩<;>rfl
theorem FH (j m:Nat) (f:Bool) (p:List UInt8):(body j m f p).length=2*j+m:=by simp [body];omega
set_option maxRecDepth 10000
theorem VA (k:Nat):∀ s,gZ k s=List.replicate k 91++(List.replicate k 93++s):=by
 induction k with
 |zero=>intro s;rfl
 |succ k ih=>
  intro s
  show 91::gZ k (93::s)=_
  rw [ih,List.replicate_succ (n:=k) (a:=(91:Int)),List.replicate_succ' (n:=k) (a:=(93:Int)),List.append_assoc];rfl
def bF (k:Nat):List UInt8:=List.replicate k 91++List.replicate k 93
theorem Wf (k:Nat):(bF k).map ub=gZ k []:=by
 rw [VA,List.append_nil];unfold bF;rw [List.map_append,List.map_replicate,List.map_replicate];rfl
theorem Xf (k:Nat):∀ x∈bF k,lt7 x:=by
 intro x hx;simp only [bF,List.mem_append,List.mem_replicate] at hx;rcases hx with ⟨_,rfl⟩ |⟨_,rfl⟩<;>exact ⟨by decide,by decide⟩
theorem Ue (k n:Nat) (hn:100<=n):form n (bF (k+1))=some (1,0,()):=by
 obtain ⟨m,rfl⟩:∃ m,n=m+60:=⟨n - 60,by omega⟩;cases k with
 |zero=>exact XQ m []
 |succ k=>
  unfold bF;rw [List.replicate_succ (n:=k+1) (a:=(91:UInt8)),List.replicate_succ (n:=k) (a:=(91:UInt8)),List.cons_append,List.cons_append];exact Xn m _
def bB:Nat->List UInt8
 |0=> []
 |k+1=>bB k++ [45,32]
theorem QM (k:Nat):(bB k).length=2*k:=by
 induction k with
 |zero=>rfl
 |succ k ih=>simp [bB,ih];omega
theorem Xd (k:Nat):∀ j,(bB k).map ub++uP j=uP (k+j):=by
 induction k with
 |zero=>intro j;rw [Nat.zero_add];rfl
 |succ k ih=>
  intro j
  show (bB k++ [45,32]).map ub++uP j=_
  rw [List.map_append,List.append_assoc,show k+1+j=k+(j+1) by omega,←ih (j+1)];rfl
theorem We (k:Nat):(bB k).map ub=uP k:=by
 have:=Xd k 0;rw [show uP 0= [] from rfl,List.append_nil] at this;exact this
theorem XY (k:Nat):∀ x∈bB k,lt7 x:=by
 induction k with
 |zero=>intro x hx;cases hx
 |succ k ih=>
  intro x hx;rcases List.mem_append.1 hx with h |h
  ·exact ih x h
  ·simp at h;rcases h with rfl |rfl<;>exact ⟨by decide,by decide⟩
theorem TF (k:Nat):∃ r,bB (k+1)=45::32::r:=by
 induction k with
 |zero=>exact ⟨[],rfl⟩
 |succ k ih=>
  obtain ⟨r,h⟩:=ih;exact ⟨r++ [45,32],by show bB (k+1)++ [45,32]=_;rw [h];rfl⟩
theorem UO (k n:Nat) (hn:100<=n):form n (bB (k+1))=some (1,0,()):=by
 obtain ⟨m,rfl⟩:∃ m,n=m+60:=⟨n - 60,by omega⟩;obtain ⟨r,h⟩:=TF k;rw [h];exact W2 m _
theorem S2 (j:Nat) (hj:j<300):∃ y r,Pr (gZ (j+1) []) 91 y r:=by
 obtain ⟨y,r,hx,h1,h2⟩:=Cl j [];exact ⟨y,r,by rw [←hx];rfl,by rw [kD];simp;omega,by decide,by decide,by decide,by decide,.inl (by decide)⟩
theorem Wg (j:Nat) (hj:j<300):Pr (uP (j+1)) 45 32 (uP j):=
 ⟨rfl,by rw [CO];omega,by decide,by decide,by decide,by decide,.inr (by decide)⟩
theorem KO (T:List Int) (j m:Nat) (f:Bool) (p:List UInt8) (hj:j<300) (hm:m<300) (h:∀ n,4000<=n->Ap n 0 0 (-1,(true,false)) ([],[]) [((0:Int),T)] [] [] [((0:Int),T)]=Mk T (if j+1<=200 then some (body (j+1) m f p) else none)):
  ME T (if j+1<=200 then some (body (j+1) m f p) else none):=
 ⟨h,fun e he=>by
  split at he
  ·cases he
   exact ⟨by rw [←List.length_pos_iff,FH];omega,by rw [FH];omega,R4 _ _ _ _⟩
  ·cases he⟩
theorem R8 (b:List UInt8) {x y:Int} {r:List Int} (h:Pr (b.map ub) x y r) (j m:Nat) (f:Bool) (p:List UInt8) (hj:j<300) (hm:m<300) (hp:SH p)
  (ho:ME (b.map ub) (if j+1<=200 then some (body (j+1) m f p) else none)) (hb:∀ c∈b,lt7 c) (hx:x≠32) (hf:∀ n,100<=n->form n b=some (1,0,())) (n:Nat) (hn:300000<=n) (dp:Int) (h0:0<=dp) (h1:dp<=300):
  load n b ((1048576:Int),(dp,(20000:Int))) 2=if j+1<=200/\((j+1:Nat):Int)<=dp then some ((Am j m p,[0]),(0:Int),()) else some (([],([]:List Int)),(8:Int),()):=by
 have hl:b.length<5000:=by have:=h.len;simpa using this
 have hlim:uB dp 200=if dp<=200 then dp else 200:=by
  unfold uB;by_cases q:dp<=200
  ·rw [if_pos q,bC (by omega)];rfl
  ·rw [if_neg q,bD (by omega)];rfl
 have he:=OV b h _ ho hb hx hf n (by omega);unfold load
 show (bif (aR (bif (aR (1048576:Int) (bif (aR (0:Int) (1048576:Int)) then (1048576:Int) else (0:Int))) then (1048576:Int) else (bif (aR (0:Int) (1048576:Int)) then (1048576:Int) else (0:Int))) (len b)) then _ else _)=_
 rw [UF 1048576 (by omega) (by omega)];refine cF (bC (by unfold len;omega)) ?_;by_cases hj2:j+1<=200
 ·rw [if_pos hj2] at he
  refine bS (he.trans rfl) ?_;refine cF rfl ?_;by_cases hd:((j+1:Nat):Int)<=dp
  ·rw [if_pos ⟨hj2,hd⟩]
   refine bS (X4 false false j m f p dp 20000 hj hm (n+6) (by omega) (by rw [hlim];split<;>omega) (by rw [Qi 20000 20000 (by omega)];omega)) ?_;refine cF rfl ?_;refine bS (zm j m p hp hj hm (n+2) (by omega)) ?_;refine bS (Ig j m p hp hj hm (n+1) (by omega)) ?_;exact cF rfl rfl
  ·rw [if_neg (fun q=>hd q.2)]
   refine bS (T4 false false j m f p dp 20000 hj hm (n+6) (by omega) (by rw [hlim];split<;>omega) (by rw [hlim];split<;>omega) (by rw [Qi 20000 20000 (by omega)];omega)) ?_;exact cT rfl rfl
 ·rw [if_neg hj2] at he
  rw [if_neg (fun q=>hj2 q.1)];refine bS (he.trans rfl) ?_;exact cT rfl rfl
theorem MK (t1:Int) (k:Nat) (hk:k<1000):∀ (j n i:Nat),i+j=k->j<n->ue n (k:Int) t1 true (List.replicate i 91) (List.replicate i 93) (i:Int)=some (((k:Int),(t1,(true,(List.replicate k 91,(List.replicate k 93,()))))),()):=by
 intro j
 induction j with
 |zero=>
  intro n i hi hn;obtain ⟨m,rfl⟩:∃ m,n=m+1:=⟨n - 1,by omega⟩;rw [ue];have:i=k:=by omega
  subst this;exact cF (bC (by omega)) rfl
 |succ j ih=>
  intro n i hi hn;obtain ⟨m,rfl⟩:∃ m,n=m+1:=⟨n - 1,by omega⟩;rw [ue];refine cT (bD (by omega)) ?_;refine cT rfl ?_;refine cT (cr (by simp;omega)) ?_;refine cT (cr (by simp;omega)) ?_;rw [AB i (by omega),←List.replicate_succ',←List.replicate_succ'];exact ih m (i+1) (by omega) (by omega)
theorem Un (t1:Int) (k:Nat) (hk:k<1000):∀ (j n i:Nat),i+j=k->j<n->ue n (k:Int) t1 false (bB i) [] (i:Int)=some (((k:Int),(t1,(false,(bB k,([],()))))),()):=by
 intro j
 induction j with
 |zero=>
  intro n i hi hn;obtain ⟨m,rfl⟩:∃ m,n=m+1:=⟨n - 1,by omega⟩;rw [ue];have:i=k:=by omega
  subst this;exact cF (bC (by omega)) rfl
 |succ j ih=>
  intro n i hi hn;obtain ⟨m,rfl⟩:∃ m,n=m+1:=⟨n - 1,by omega⟩;rw [ue];refine cT (bD (by omega)) ?_;refine cF rfl ?_;refine cT (cr (by simp [QM];omega)) ?_;rw [AB i (by omega)];exact ih m (i+1) (by omega) (by omega)
theorem Zv:SH []:= .inl rfl
theorem zt (n:Nat) (hn:300000<=n) (j:Nat) (dp:Int) (flow:Bool) (h1:j<230) (h2:0<=dp) (h3:dp<=300):gM n ((j+1:Nat):Int) dp flow=some (true,()):=by
 have ew:zal (((j+1:Nat):Int)+1)=((j+1+1:Nat):Int):=AB (j+1) (by omega);unfold gM;refine bS (v:=false) (cF (bC (by omega)) (cF (bC (by omega)) (cF (bC (by omega)) (by rw [bC (by omega)])))) ?_;refine cF rfl ?_;cases flow with
 |true=>
  have hL:ue (n+12) ((j+1:Nat):Int) dp true [] [] 0=_:=MK dp (j+1) (by omega) (j+1) (n+12) 0 (Nat.zero_add _) (by omega);refine bS hL ?_;refine cT (cr (by simp;omega)) ?_;obtain ⟨y,r,ht⟩:=S2 j (by omega);have hm:=Wf (j+1);have hload:=R8 (bF (j+1)) (by rw [hm];exact ht) j 0 true [] (by omega) (by omega) Zv (by rw [hm];exact KO _ j 0 true [] (by omega) (by omega) (fun n hn=>Wa j n (by omega) hn)) (Xf _) (by decide) (fun n hn=>Ue j n hn) n hn dp h2 h3;by_cases hq:j+1<=200/\((j+1:Nat):Int)<=dp
  ·rw [if_pos hq] at hload
   refine bS hload ?_;refine bS (v:=false) (cF (show aR dp ((j+1:Nat):Int)=false from bC (by omega)) (by rw [show aR (200:Int) ((j+1:Nat):Int)=false from bC (by omega)])) ?_;refine cF rfl ?_;refine cT rfl ?_;refine cT rfl ?_;rw [show ((len (Am j 0 []))==((j+1:Nat):Int))=true from by rw [ie];exact decide_eq_true (by unfold len;rw [qd])]
  ·rw [if_neg hq] at hload
   refine bS hload ?_;refine bS (v:=true) ?_ ?_
   ·by_cases hd:dp<((j+1:Nat):Int)
    ·exact cT (bD hd) rfl
    ·exact cF (show aR dp ((j+1:Nat):Int)=false from bC (by omega)) (by rw [show aR (200:Int) ((j+1:Nat):Int)=true from bD (by omega)])
   ·exact cT rfl (cT rfl rfl)
 |false=>
  have hL:ue (n+12) ((j+1:Nat):Int) dp false [] [] 0=_:=Un dp (j+1) (by omega) (j+1) (n+12) 0 (Nat.zero_add _) (by omega);refine bS hL ?_;refine cT (cr (by simp [QM];omega)) ?_;have ht:=Wg j (by omega);have hm:=We (j+1);have hload:=R8 (bB (j+1)) (by rw [hm];exact ht) j 1 false [] (by omega) (by omega) Zv (by rw [hm];exact KO _ j 1 false [] (by omega) (by omega) (fun n hn=>X1 j n (by omega) hn)) (XY _) (by decide) (fun n hn=>UO j n hn) n hn dp h2 h3;have ha:bB (j+1)++ []=bB (j+1):=List.append_nil _
  show Option.bind (load n (bB (j+1)++ []) ((1048576:Int),(dp,(20000:Int))) 2) _=_
  rw [ha];by_cases hq:j+1<=200/\((j+1:Nat):Int)<=dp
  ·rw [if_pos hq] at hload
   refine bS hload ?_;refine bS (v:=false) (cF (show aR dp ((j+1:Nat):Int)=false from bC (by omega)) (by rw [show aR (200:Int) ((j+1:Nat):Int)=false from bC (by omega)])) ?_;refine cF rfl ?_;refine cF rfl ?_;refine cT rfl ?_
   show some (((len (Am j 1 []))==zal (((j+1:Nat):Int)+1)),())=_
   rw [ew,show ((len (Am j 1 []))==((j+1+1:Nat):Int))=true from by rw [ie];exact decide_eq_true (by unfold len;rw [qd])]
  ·rw [if_neg hq] at hload
   refine bS hload ?_;refine bS (v:=true) ?_ ?_
   ·by_cases hd:dp<((j+1:Nat):Int)
    ·exact cT (bD hd) rfl
    ·exact cF (show aR dp ((j+1:Nat):Int)=false from bC (by omega)) (by rw [show aR (200:Int) ((j+1:Nat):Int)=true from bD (by omega)])
   ·exact cT rfl (cT rfl rfl)
theorem zC (n:Nat) (hn:300000<=n) (x0 x1:Int) (x2:Bool) (_:Sh.wf am x0) (_:Sh.wf am x1) (_:Sh.wf .bool x2):gM n x0 x1 x2=some (true,()):=by
 by_cases a1:x0<1
 ·unfold gM;exact bS (v:=true) (cT (bD a1) rfl) rfl
 by_cases a2:230<x0
 ·unfold gM;exact bS (v:=true) (cF (bC (by omega)) (cT (bD a2) rfl)) rfl
 by_cases a3:x1<0
 ·unfold gM;exact bS (v:=true) (cF (bC (by omega)) (cF (bC (by omega)) (cT (bD a3) rfl))) rfl
 by_cases a4:300<x1
 ·unfold gM;exact bS (v:=true) (cF (bC (by omega)) (cF (bC (by omega)) (cF (bC (by omega)) (by rw [bD a4])))) rfl
 obtain ⟨j,rfl⟩:∃ j:Nat,x0=((j+1:Nat):Int):=⟨x0.toNat - 1,by omega⟩;exact zt n hn j x1 x2 (by omega) (by omega) (by omega)
end Go.Proofs.YtdelfjdjenlaiaaGreatDoor
namespace Go.Proofs.YtdelfjdjenlaiaaGreatDoor
open Go Go.Iv Go.Gv Go.Shelf Go.Proofs
def FE:Go.Shelf.Ren:=⟨fun |171=>73 |243=>104 |246=>129 |283=>152 |284=>153 |285=>154 |286=>155 |129=>181 |317=>180 |318=>182 |319=>183 |320=>184 |337=>202 |338=>203 |n=>n,fun |3=>3 |9=>9 |2=>2 |4=>4 |171=>218 |0=>0 |53=>217 |37=>30 |5=>5 |173=>221 |212=>245 |51=>246 |20=>20 |213=>247 |46=>141 |232=>284 |233=>285 |n=>n,fun |17=>2 |18=>5 |19=>6 |n=>n⟩
theorem UA:Go.Proofs.LaysM.n171 Tryz.prog FE:={
 mixed:=by kernel_rfl
 f129:=Tryz.func181.trans (congrArg some (by kernel_rfl))
 f171:=Tryz.func73.trans (congrArg some (by kernel_rfl))
 f243:=Tryz.func104.trans (congrArg some (by kernel_rfl))
 f246:=Tryz.func129.trans (congrArg some (by kernel_rfl))
 f283:=Tryz.func152.trans (congrArg some (by kernel_rfl))
 f284:=Tryz.func153.trans (congrArg some (by kernel_rfl))
 f285:=Tryz.func154.trans (congrArg some (by kernel_rfl))
 f286:=Tryz.func155.trans (congrArg some (by kernel_rfl))
 f317:=Tryz.func180.trans (congrArg some (by kernel_rfl))
 f318:=Tryz.func182.trans (congrArg some (by kernel_rfl))
 f319:=Tryz.func183.trans (congrArg some (by kernel_rfl))
 f320:=Tryz.func184.trans (congrArg some (by kernel_rfl))
 f337:=Tryz.func202.trans (congrArg some (by kernel_rfl))
 f338:=Tryz.func203.trans (congrArg some (by kernel_rfl))
 t0:=Tryz.underlying0
 a0:=Tryz.isAgg0
 z0:=Tryz.sizeOf0
 v0:=Tryz.zeroValue0
 t2:=Tryz.underlying2
 a2:=Tryz.isAgg2
 z2:=Tryz.sizeOf2
 v2:=Tryz.zeroValue2
 t3:=Tryz.underlying3
 a3:=Tryz.isAgg3
 z3:=Tryz.sizeOf3
 v3:=Tryz.zeroValue3
 t4:=Tryz.underlying4
 a4:=Tryz.isAgg4
 z4:=Tryz.sizeOf4
 v4:=Tryz.zeroValue4
 t5:=Tryz.underlying5
 a5:=Tryz.isAgg5
 z5:=Tryz.sizeOf5
 v5:=Tryz.zeroValue5
 t9:=Tryz.underlying9
 a9:=Tryz.isAgg9
 z9:=Tryz.sizeOf9
 v9:=Tryz.zeroValue9
 t20:=Tryz.underlying20
 a20:=Tryz.isAgg20
 z20:=Tryz.sizeOf20
 v20:=Tryz.zeroValue20
 t37:=Tryz.underlying30
 a37:=Tryz.isAgg30
 z37:=Tryz.sizeOf30
 v37:=Tryz.zeroValue30
 t46:=Tryz.underlying141
 a46:=Tryz.isAgg141
 z46:=Tryz.sizeOf141
 v46:=Tryz.zeroValue141
 t51:=Tryz.underlying246
 a51:=Tryz.isAgg246
 z51:=Tryz.sizeOf246
 v51:=Tryz.zeroValue246
 t53:=Tryz.underlying217
 a53:=Tryz.isAgg217
 z53:=Tryz.sizeOf217
 v53:=Tryz.zeroValue217
 t171:=Tryz.underlying218
 a171:=Tryz.isAgg218
 z171:=Tryz.sizeOf218
 v171:=Tryz.zeroValue218
 t173:=Tryz.underlying221
 a173:=Tryz.isAgg221
 z173:=Tryz.sizeOf221
 v173:=Tryz.zeroValue221
 t212:=Tryz.underlying245
 a212:=Tryz.isAgg245
 z212:=Tryz.sizeOf245
 v212:=Tryz.zeroValue245
 t213:=Tryz.underlying247
 a213:=Tryz.isAgg247
 z213:=Tryz.sizeOf247
 t232:=Tryz.underlying284
 a232:=Tryz.isAgg284
 z232:=Tryz.sizeOf284
 v232:=Tryz.zeroValue284
 t233:=Tryz.underlying285
 a233:=Tryz.isAgg285
 z233:=Tryz.sizeOf285
 v233:=Tryz.zeroValue285
 g17:=by kernel_rfl
 g18:=by kernel_rfl
 g19:=by kernel_rfl
 i0:=by kernel_rfl
 i2:=by kernel_rfl
 i3:=by kernel_rfl
 i4:=by kernel_rfl
 i5:=by kernel_rfl
 i9:=by kernel_rfl
 i20:=by kernel_rfl
 i37:=by kernel_rfl
 i46:=by kernel_rfl
 i51:=by kernel_rfl
 i53:=by kernel_rfl
 i171:=by kernel_rfl
 i173:=by kernel_rfl
 i212:=by kernel_rfl
 i232:=by kernel_rfl
 i233:=by kernel_rfl
 m17:=by kernel_rfl
 m18:=by kernel_rfl
 m19:=by kernel_rfl
}
def Gs:Go.Shelf.Ren:=⟨fun |196=>100 |259=>126 |n=>n,fun |9=>9 |4=>4 |3=>3 |5=>5 |12=>12 |119=>183 |0=>0 |46=>141 |139=>186 |138=>185 |53=>217 |n=>n,fun |3=>0 |4=>1 |n=>n⟩
theorem SM:Go.Proofs.Lays.n196 Tryz.prog Gs:={
 mixed:=by kernel_rfl
 f196:=Tryz.func100.trans (congrArg some (by kernel_rfl))
 f259:=Tryz.func126.trans (congrArg some (by kernel_rfl))
 t0:=Tryz.underlying0
 a0:=Tryz.isAgg0
 z0:=Tryz.sizeOf0
 v0:=Tryz.zeroValue0
 t3:=Tryz.underlying3
 a3:=Tryz.isAgg3
 z3:=Tryz.sizeOf3
 v3:=Tryz.zeroValue3
 t4:=Tryz.underlying4
 a4:=Tryz.isAgg4
 z4:=Tryz.sizeOf4
 v4:=Tryz.zeroValue4
 t5:=Tryz.underlying5
 a5:=Tryz.isAgg5
 z5:=Tryz.sizeOf5
 v5:=Tryz.zeroValue5
 t9:=Tryz.underlying9
 a9:=Tryz.isAgg9
 z9:=Tryz.sizeOf9
 v9:=Tryz.zeroValue9
 t12:=Tryz.underlying12
 a12:=Tryz.isAgg12
 z12:=Tryz.sizeOf12
 v12:=Tryz.zeroValue12
 t46:=Tryz.underlying141
 a46:=Tryz.isAgg141
 z46:=Tryz.sizeOf141
 v46:=Tryz.zeroValue141
 t53:=Tryz.underlying217
 a53:=Tryz.isAgg217
 z53:=Tryz.sizeOf217
 v53:=Tryz.zeroValue217
 t119:=Tryz.underlying183
 a119:=Tryz.isAgg183
 z119:=Tryz.sizeOf183
 t138:=Tryz.underlying185
 a138:=Tryz.isAgg185
 z138:=Tryz.sizeOf185
 v138:=Tryz.zeroValue185
 t139:=Tryz.underlying186
 a139:=Tryz.isAgg186
 z139:=Tryz.sizeOf186
 v139:=Tryz.zeroValue186
 g3:=by kernel_rfl
 g4:=by kernel_rfl
}
theorem ZV:tX Tryz.prog 0 5 0:=Nj QG
theorem YL:tX Tryz.prog 1 73 2:=Nh ⟨_,_,Tryz.func73,rfl⟩ (by kernel_rfl) fun n w h0 h1 ht=>Go.Proofs.Any.strconv_Itoa UA n h0 h1 w ht
theorem Xr:tX Tryz.prog 3 100 1:=HH (g1:=0) (g2:=1) (by decide) ⟨_,_,Tryz.func100,rfl⟩ fun s w h1 h2=>Go.Proofs.Any.utf8_ValidString SM s w h1 h2
theorem O0:jB Tryz.prog (cP hint):=Qj (show pR Tryz.prog Vk from ⟨ZV,YL,Xr,trivial⟩)
end Go.Proofs.YtdelfjdjenlaiaaGreatDoor
