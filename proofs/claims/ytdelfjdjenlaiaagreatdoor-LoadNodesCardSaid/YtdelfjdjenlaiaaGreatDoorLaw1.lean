/- A plain scalar of one sign, and a list of such between brackets, on a text of one line. -/
import Derived.Test.YtdelfjdjenlaiaaGreatDoorLaw
import Derived.Test.YtdelfjdjenlaiaaGreatDoorGvPlain
import Derived.Lib.ItoaLen
import Derived.Test.YtdelfjdjenlaiaaGreatDoorGvSpecX
import Derived.Test.YtdelfjdjenlaiaaGreatDoorProg
import Derived.Test.YtdelfjdjenlaiaaGreatDoorGs
import Derived.Test.YtdelfjdjenlaiaaGreatDoorAl
set_option linter.unusedSimpArgs false
set_option linter.unusedVariables false
namespace Go.Proofs.YtdelfjdjenlaiaaGreatDoor
open Go Go.Iv Go.Gv
set_option maxRecDepth 10000
theorem VE (n:Nat):xv (n+30) [[97]]=some ([97],()):=by kernel_rfl
theorem SF (n:Nat):bytes (n+30) [97]=some ([97],()):=by kernel_rfl
def WA:Int×d8:=(7,([97],([],([],(1,false)))))
abbrev D7:=List (Int×d8)
theorem QE (n:Nat) (T:List Int) (k:Nat) (c:Int) (r:List Int) (c1 c3:Int) (op:Int) (ops:List Int) (ev:D7) (hT:T.length<100000) (hd:T.drop k=97::c::r) (hc:Sx UZ c=true) (hb:Ka c=false)
  (hn:T.length+60<=n) (he:ev.length<10000):
  De n ((0:Int),(k:Int)) (97::c::r) ([],([],(0,0))) [((0:Int),T)] c1 true c3 (op::ops) ev=some (.inl (((((0:Int),((k+1:Nat):Int)),()),(([((0:Int),T)],(c1,(true,(c3,(op::ops,(ev++ [WA],())))))),())))):=by
 obtain ⟨m,rfl⟩:∃ m,n=m+31:=⟨n - 31,by omega⟩;have hk:k+2+r.length=T.length:=by have:=congrArg List.length hd;simp at this;omega
 have hd1:T.drop (k+1)=c::r:=by rw [←zah,hd];rfl
 have e0:zal ((k:Int)+1)=((k+1:Nat):Int):=by rw [bC]<;>omega
 have hp:∀ q,s5 (q+1) ((0:Int),((k+1:Nat):Int)) [((0:Int),T)]=some ((((0:Int),((k+1:Nat):Int)),(c::r,())),()):=fun q=>by
  rw [ox q T (k+1) (by omega) (by omega) (by rw [hd1];intro x hx;cases hx;exact hb),hd1]
 have e1:((len (c::r))==(0:Int))=false:=by unfold len;rw [gz];exact decide_eq_false (by simp;omega)
 have e2:aQ (1:Int) (len (97::c::r))=true:=cu (by unfold len;simp;omega);have e5:∀ x,(room (((List.length ev)+(List.length (x::([]:D7))))*73))=true:=fun x=>by
  exact c9 (by simp;omega)
 unfold De;refine bS (v:=(((),()),((([((0:Int),T)],(c1,(true,(c3,(op::ops,(ev++ [WA],())))))),((0,((k:Int),())),(([],([],(0,(0,())))),((0,(((k+1:Nat):Int),())),()))))))) ?_ rfl;rw [J6];refine bS (nB _ _ _) ?_;refine bS (W3 _ r (by omega) (show r.length+40<=m+31 by omega) c hc hb) ?_;refine cT (by rw [e2];rfl) ?_;refine bS (by rw [e0];exact hp (m+34)) ?_;refine cF e1 ?_;refine bS (VE (m+4)) ?_;refine bS (SF (m+4)) ?_;refine cT (e5 _) ?_;rw [e0];rfl
theorem SG (d n:Nat) (T:List Int) (k:Nat) (c:Int) (r:List Int) (c1 c3:Int) (op:Int) (ops:List Int) (ev:D7) (hT:T.length<100000) (hd:T.drop k=97::c::r) (hc:Sx UZ c=true) (hb:Ka c=false)
  (hn:T.length+80<=n) (he:ev.length<10000):
  gf (d+1) n ((0:Int),(k:Int)) [((0:Int),T)] c1 true c3 (op::ops) ev=some (.inl ((((((0:Int),((k+1:Nat):Int)),false),()),(([((0:Int),T)],(c1,(true,(c3,(op::ops,(ev++ [WA],())))))),())))):=by
 obtain ⟨m,rfl⟩:∃ m,n=m+7:=⟨n - 7,by omega⟩;have hk:k+2+r.length=T.length:=by have:=congrArg List.length hd;simp at this;omega
 rw [gf];refine cT (by simp) ?_;rw [show m+7 - 7=m from rfl];unfold pP;refine bS (kJ (m+1) T k c1 97 (c::r) (by omega) hd (by decide) (by decide) (by decide) (by decide)) ?_;refine bS (fe _ T k (by omega) (by omega)) ?_;rw [hd];refine cF rfl ?_;have e1:aR (0:Int) (len (97::c::r))=true:=bA (by unfold len;simp;omega);refine bS (cT e1 rfl) ?_;refine cF rfl ?_;refine bS (cT e1 rfl) ?_;refine cF rfl ?_;refine bS (cT e1 rfl) ?_;refine cF rfl ?_;refine cT e1 ?_;refine bS (nB _ _ _) ?_;refine bS (RW _ (c::r) (by simp;omega) (by omega)) ?_;refine cT rfl ?_;refine bS (QE m T k c r c1 c3 op ops ev hT hd hc hb (by omega) he) ?_;rfl
def sS:Int×d8:=(3,([],([],([],(0,true)))))
def sE:Int×d8:=(4,([],([],([],(0,false)))))
theorem QS (ev:D7) (he:ev.length<10000) (x):(room (((List.length ev)+(List.length (x::([]:D7))))*73))=true:=c9 (by simp;omega)
theorem Yk (l:List Int) (x:Int) (h:l.length<100000):List.take ((Int.toNat (zal ((len (l++x:: [])) - (1:Int)))) - 0) (List.drop 0 (l++x:: []))=l:=by
 have:zal ((len (l++x:: [])) - (1:Int))=(l.length:Int):=by
  unfold len;simp;rw [bC]<;>omega
 rw [this];simp
theorem Mr (d m:Nat) (T:List Int) (k k':Nat) (x:Int) (r:List Int) (c1:Int) (ops:List Int) (ev ev':D7) (hT:T.length<100000) (hd:T.drop k=91::x::r) (hb:Ka x=false) (hx:x≠35)
  (he:ev.length<10000) (he':ev'.length<10000) (ho:ops.length<200)
  (hl:nZ (gf d) m (3:Int) (93:Int) [((0:Int),T)] c1 true 0 (ops++((3:Int):: [])) (ev++(sS:: [])) (0:Int) (0:Int) 0 ((k+1:Nat):Int)
   =some (.inl (((),((),(3,((),())))),(([((0:Int),T)],(c1,(true,(0,(ops++ [3],(ev',())))))),((0,(0,())),((0,((k':Int),())),())))))) (hk':k'<100000):
  gf (d+1) (m+7) ((0:Int),(k:Int)) [((0:Int),T)] c1 true 0 ops ev=some (.inl ((((((0:Int),((k'+1:Nat):Int)),true),()),(([((0:Int),T)],(c1,(true,(0,(ops,(ev'++ [sE],())))))),())))):=by
 have hk:k+2+r.length=T.length:=by have:=congrArg List.length hd;simp at this;omega
 have hd1:T.drop (k+1)=x::r:=by rw [←zah,hd];rfl
 rw [gf];refine cT (by simp) ?_;rw [show m+7 - 7=m from rfl];unfold pP;refine bS (kJ (m+1) T k c1 91 (x::r) (by omega) hd (by decide) (by decide) (by decide) (by decide)) ?_;refine bS (fe _ T k (by omega) (by omega)) ?_;rw [hd];refine cF rfl ?_;have e1:aR (0:Int) (len (91::x::r))=true:=bA (by unfold len;simp;omega);refine bS (cT e1 rfl) ?_;refine cF rfl ?_;refine bS (cT e1 rfl) ?_;refine cF rfl ?_;refine bS (cT e1 rfl) ?_;refine cT rfl ?_;refine bS rfl ?_;refine cF rfl ?_;refine bS (Wd _ ops ho) ?_;refine cT (QS ev he _) ?_;refine cT (c9 (by simp;omega)) ?_;have e0:zal ((k:Int)+1)=((k+1:Nat):Int):=by rw [bC]<;>omega
 refine bS (v:= .inl ((((0:Int),((k+1:Nat):Int)),()),())) (by rw [e0];exact kC m T (k+1) c1 (by omega) ⟨x,r,hd1,hb,hx⟩) ?_;refine bS hl ?_;refine cT (QS ev' he' _) ?_;refine cT (by
  have:zal ((len (ops++ [3])) - (1:Int))=(ops.length:Int):=by
   unfold len;simp;rw [bC]<;>omega
  show ((aQ (0:Int) (zal ((len (ops++ [3])) - (1:Int)))) &&(aQ (zal ((len (ops++ [3])) - (1:Int))) (len (ops++ [3]))))=true
  rw [this,cu (by omega),cu (by unfold len;simp;omega)];rfl) ?_
 have e2:zal ((k':Int)+1)=((k'+1:Nat):Int):=by rw [bC]<;>omega
 have e3:=Yk ops 3 (by omega)
 show some (Sum.inl (((((0:Int),zal ((k':Int)+1)),true),()),(([((0:Int),T)],(c1,(true,(0,(List.take ((Int.toNat (zal ((len (ops++3:: [])) - (1:Int)))) - 0) (List.drop 0 (ops++3:: [])),(ev'++ [(zal (3+1),([],([],([],(0,false)))))],())))))),())))=_
 rw [e2,e3];rfl
def q0:Nat->List Int
 |0=> [93]
 |j+1=>97::44::q0 j
theorem C0 (j:Nat):∃ x r,q0 j=x::r/\Ka x=false/\x≠35:=by
 cases j with
 |zero=>exact ⟨93,[],rfl,by decide,by decide⟩
 |succ j=>exact ⟨97,44::q0 j,rfl,by decide,by decide⟩
theorem B4 (j:Nat):(q0 j).length=2*j+1:=by
 induction j with
 |zero=>rfl
 |succ j ih=>simp [q0,ih];omega
theorem XF (a b:Int) (h:b<=a) (h2:a - b<=1024):aR (1024:Int) (zal (a - b))=false:=br (by rw [bC]<;>omega)
theorem Ub (d:Nat) (T:List Int) (hT:T.length<100000) (c1:Int) (op:Int) (ops:List Int):∀ (j n k:Nat) (ev:D7),T.drop k=q0 j->T.length+80+j<=n->ev.length+j<10000->
  nZ (gf (d+1)) n (3:Int) (93:Int) [((0:Int),T)] c1 true 0 (op::ops) ev 0 0 0 (k:Int)
   =some (.inl (((),((),(3,((),())))),(([((0:Int),T)],(c1,(true,(0,(op::ops,(ev++List.replicate j WA,())))))),((0,(0,())),((0,(((k+2*j:Nat):Int),())),()))))):=by
 intro j
 induction j with
 |zero=>
  intro n k ev hd hn he;obtain ⟨m,rfl⟩:∃ m,n=m+1:=⟨n - 1,by omega⟩;have hk:k+1=T.length:=by have:=congrArg List.length hd;simp [q0] at this;omega
  rw [nZ];refine bS (pG _ T k 93 (by omega) (by omega)) ?_;refine cF (by rw [hd];rfl) ?_;simp
 |succ j ih=>
  intro n k ev hd hn he;obtain ⟨m,rfl⟩:∃ m,n=m+1:=⟨n - 1,by omega⟩;have hk:k+2+(q0 j).length=T.length:=by have:=congrArg List.length hd;simp [q0] at this;omega
  have hd1:T.drop (k+1)=44::q0 j:=by rw [←zah,hd];rfl
  have hd2:T.drop (k+2)=q0 j:=by rw [←zah,hd];rfl
  obtain ⟨x,r,hx,hx1,hx2⟩:=C0 j;rw [nZ];refine bS (pG _ T k 93 (by omega) (by omega)) ?_;refine cT (by rw [hd];rfl) ?_;refine bS (sL _ T k 63 97 _ (by omega) hd (by decide)) ?_;refine cF rfl ?_;refine bS (SG d (m+5) T k 44 (q0 j) c1 0 op ops ev hT hd (by decide) (by decide) (by omega) (by omega)) ?_;have h1:there T (k+1):=⟨44,_,hd1,by decide,by decide⟩;refine bS (kC m T (k+1) c1 (by omega) h1) ?_;refine cF rfl ?_;refine cF rfl ?_;refine cF (XF ((k+1:Nat):Int) (k:Int) (by omega) (by omega)) ?_;refine bS (JH _ T (k+1) _ 44 _ (by omega) hd1 (by decide)) ?_;refine cT rfl ?_;refine bS (kC (m+1) T (k+1) c1 (by omega) h1) ?_;refine bS (pG _ T (k+1) 44 (by omega) (by omega)) ?_;refine cF (by rw [hd1];rfl) ?_;have e0:zal (((k+1:Nat):Int)+1)=((k+2:Nat):Int):=by rw [bC]<;>omega
  refine bS (v:= .inl ((((0:Int),((k+2:Nat):Int)),()),())) (by rw [e0];exact kC (m+1) T (k+2) c1 (by omega) ⟨x,r,by rw [hd2,hx],hx1,hx2⟩) ?_;have:=ih m (k+2) (ev++ [WA]) hd2 (by omega) (by simp;omega);refine this.trans ?_;rw [show k+2+2*j=k+2*(j+1) by omega,List.append_assoc];rfl
def zt:Nat->List Int->List Int
 |0,s=>s
 |j+1,s=>91::zt j (93::s)
set_option maxRecDepth 10000
noncomputable def HT (T:List Int) (c1:Int) (out:Option D7):Option ((((gt×Bool)×Unit)×((bi×(Int×(Bool×(Int×(bv×((List (Int×d8))×Unit))))))×Unit))⊕Int):=
 match out with
 |some ev=>some (.inl ((((((0:Int),(T.length:Int)),true),()),(([((0:Int),T)],(c1,(true,(0,([],(ev,())))))),()))))
 |none=>some (.inr 8)
theorem Ti (n:Nat) (T:List Int) (x:Int) (r:List Int) (out:Option D7) (hT:T.length<100000) (hd:T=91::x::r)
  (hJ:oO (n+1) ((0:Int),(0:Int)) [((0:Int),T)] (-(1:Int)) true 0 [] []=HT T (-(1:Int)) out):Uj (n+1) 0 0 [((0:Int),T)]=some (((0:Int),false,()),()):=by
 unfold Uj;refine bS (cT rfl rfl) ?_;refine cT rfl ?_;refine cT rfl ?_;refine cT rfl ?_;refine bS (fe _ T 0 (by omega) (by omega)) ?_;have e1:((len (T.drop 0))==(0:Int))=false:=by unfold len;rw [gz,hd];exact decide_eq_false (by simp;omega)
 refine cF e1 ?_;refine bS (v:=91) (by rw [hd];rfl) ?_;refine bS (ej _ _) ?_;refine cF (by decide) ?_;cases out with
 |some ev=>
  refine bS (hJ.trans rfl) ?_;have e2:T.drop T.length= []:=List.drop_length;refine bS (ox n T T.length (by omega) (by omega) (by rw [e2];intro c hc;cases hc)) ?_;rw [e2];refine cT rfl ?_;rfl
 |none=>
  refine bS (hJ.trans rfl) ?_;refine cT rfl ?_;rfl
noncomputable def Yw (T:List Int) (out:Option D7):Option ((D7×(Int×g7))×Unit):=
 match out with
 |some ev=>some ((ev,(0:Int),(T.length:Int),(0:Int),()),())
 |none=>some (([],(0:Int),(0:Int),(8:Int),()),())
theorem Ij (n:Nat) (T:List Int) (m:Int) (out:Option D7)
  (hJ:oO n ((0:Int),(0:Int)) [((0:Int),T)] m true 0 [] []=HT T m out):CN n 0 0 m 0 [((0:Int),T)]=Yw T out:=by
 unfold CN;refine cF rfl ?_;refine cF rfl ?_;refine cF rfl ?_;cases out with
 |some ev=>exact bS (hJ.trans rfl) rfl
 |none=>exact bS (hJ.trans rfl) rfl
theorem JP (n:Nat) (T:List Int) (x:Int) (r:List Int) (hT:T.length<100000) (hd:T=91::x::r):vh (n+1) 0 0 [((0:Int),T)]=some (((([]:List UInt8),([]:List UInt8)),(0:Int),(0:Int),()),()):=by
 unfold vh;refine bS (cT rfl rfl) ?_;refine cT rfl ?_;refine cT rfl ?_;refine cT rfl ?_;refine bS (kJ n T 0 _ 91 (x::r) (by omega) hd (by decide) (by decide) (by decide) (by decide)) ?_;rfl
theorem DI (n:Nat) (T:List Int) (x:Int) (r:List Int) (c:Int) (hd:T=x::r) (hx:x≠c):Ff n 0 0 c [((0:Int),T)]=some ((false,()),()):=by
 unfold Ff;subst hd;refine cT rfl ?_;refine bS (v:=(0,x::r)) rfl ?_;refine cT rfl ?_;refine cT (show aR (0:Int) (len (x::r))=true from bA (by unfold len;simp)) ?_;refine cT rfl ?_;refine bS (v:=x) rfl ?_;refine cF (by rw [gz];exact decide_eq_false hx) ?_;rfl
theorem Ro (n:Nat) (T:List Int) (x:Int) (r:List Int) (out:Option D7) (hT:T.length<100000) (hd:T=91::x::r)
  (hJ:oO (n+1) ((0:Int),(0:Int)) [((0:Int),T)] (-(1:Int)) true 0 [] []=HT T (-(1:Int)) out):Le (n+1) 0 0 [((0:Int),T)] [((0:Int),T)]=some ((false,()),()):=by
 unfold Le;refine bS (DI _ T 91 (x::r) 63 hd (by decide)) ?_;refine cF rfl ?_;refine bS (Ti n T x r out hT hd hJ) ?_;rfl
def Vr (l:List Int):Prop:=∀ c,l.head? =some c->Ka c=false/\c≠35
theorem Je (L:List i6) (t1 t10:Int) (tl:List Int) (ht:Vr tl):∀ (b n k:Nat),b+1<=n->k+b<1000000->
  ru n t1 (k:Int) (List.replicate b 32++tl) t10 L=some (((),(t1,(((k+b:Nat):Int),(tl,(t10,()))))),((L,((),((),((),())))),())):=by
 intro b
 induction b with
 |zero=>
  intro n k hn hk;obtain ⟨m,rfl⟩:∃ m,n=m+1:=⟨n - 1,by omega⟩;rw [ru];cases tl with
  |nil=>exact cF rfl rfl
  |cons x r=>
   refine cT (show aR (0:Int) (len (x::r))=true from bA (by unfold len;simp)) ?_;refine bS (v:=x) rfl ?_;refine bS (ej _ _) ?_;exact cF (ht x rfl).1 rfl
 |succ b ih=>
  intro n k hn hk;obtain ⟨m,rfl⟩:∃ m,n=m+1:=⟨n - 1,by omega⟩;rw [ru,List.replicate_succ];refine cT (show aR (0:Int) (len (32::(List.replicate b 32++tl)))=true from bA (by unfold len;simp;omega)) ?_;refine bS (v:=32) rfl ?_;refine bS (ej _ _) ?_;refine cT rfl ?_;refine cT (show aQ (1:Int) (len (32::(List.replicate b 32++tl)))=true from cu (by unfold len;simp;omega)) ?_;have e0:zal ((k:Int)+1)=((k+1:Nat):Int):=by rw [bC]<;>omega
  have e1:List.take ((List.length (32::List.replicate b 32++tl)) - 1) (List.drop 1 (32::List.replicate b 32++tl))=List.replicate b 32++tl:=by
   simp;rw [List.take_of_length_le (by simp)]
  rw [e0,e1];refine (ih m (k+1) (by omega) (by omega)).trans ?_;rw [show k+1+b=k+(b+1) by omega]
theorem oa (n:Nat) (T:List Int) (k b:Nat) (tl:List Int) (ht:Vr tl) (hT:T.length<100000) (hk:k<=T.length) (hd:T.drop k=List.replicate b 32++tl) (hn:b+1<=n):
  qa n 0 (k:Int) [((0:Int),T)]=some ((tl,((k+b:Nat):Int),()),()):=by
 have hb:k+b<=T.length:=by have:=congrArg List.length hd;simp at this;omega
 unfold qa;refine cT rfl ?_;refine bS (v:=(0,T)) rfl ?_;have e1:(bif (aR (k:Int) 0) then (0:Int) else (k:Int))=(k:Int):=by rw [br (by omega)];rfl
 have e2:zal ((k:Int) - 0)=(k:Int):=by rw [bC]<;>omega
 have e3:(bif (aR (len T) (k:Int)) then (len T) else (k:Int))=(k:Int):=by rw [br (by unfold len;omega)];rfl
 show (cond _ _ _)=_
 simp only [e1,e2,e3];refine cT (by rw [cu (by omega),cu (by unfold len;omega)];rfl) ?_;have e4:List.take (T.length - (Int.toNat (k:Int))) (List.drop (Int.toNat (k:Int)) T)=List.replicate b 32++tl:=by
  rw [←hd,show Int.toNat (k:Int)=k from rfl,List.take_of_length_le (by simp)]
 rw [e4];refine bS (Je _ _ _ tl ht b n k (by omega) (by omega)) ?_;cases tl with
 |nil=>exact cF rfl rfl
 |cons x r=>
  refine cT (show aR (0:Int) (len (x::r))=true from bA (by unfold len;simp)) ?_;refine bS (v:=x) rfl ?_;refine cF (show (x==(35:Int))=false by rw [gz];exact decide_eq_false (ht x rfl).2) ?_;rfl
theorem HX (n:Nat) (T:List Int):Au (n+1) 1 [((0:Int),T)]=some (.inl ((1,false,()),())):=by
 unfold Au;refine bS (v:=(((),((1:Int),())),(([((0:Int),T)],((),((),((),())))),()))) ?_ ?_
 ·rw [IS]
  exact cF rfl rfl
 ·exact cT rfl rfl
theorem GK (n:Nat) (T:List Int) (hT:T.length<100000):vd (n+1) 0 (T.length:Int) [((0:Int),T)]=some (.inl ((1,()),())):=by
 unfold vd;refine bS (oa (n+1) T T.length 0 [] (by intro c hc;cases hc) hT (zai _) (by simp) (by omega)) ?_;exact cF rfl rfl
abbrev Cp:=Option ((dg×((bi×(Unit×(bv×((List (Int×d8))×Unit))))×((bi×Unit)×Unit)))⊕Int)
def ZI (T:List Int) (ops:List Int) (ev:D7):Cp:=some (.inl ((1,()),(([((0:Int),T)],((),(ops,(ev,())))),(([((0:Int),T)],()),()))))
def S3 (T:List Int):Option D7->Cp
 |some ev=>ZI T [] ev
 |none=>some (.inr 8)
theorem Jc (m:Nat) (T:List Int) (x:Int) (r:List Int) (w:Int) (out:Option D7) (hT:T.length<100000) (hd:T=91::x::r)
  (ho:∀ ev,out=some ev->ev.length<10000/\∃ e rr,ev=e::rr/\e.1=3)
  (hJ:oO (m+3) ((0:Int),(0:Int)) [((0:Int),T)] w true 0 [] []=HT T w out):Fz (m+3) 0 0 w ([],[]) [((0:Int),T)] [] [] [((0:Int),T)]=S3 T out:=by
 have hr2:qa (m+5) 0 0 [((0:Int),T)]=some ((T,(0:Int),()),()):=oa (m+5) T 0 0 T (by rw [hd];intro c hc;cases hc;exact ⟨by decide,by decide⟩) hT (by omega) (by simp) (by omega);have g0:T[0]? =some 91:=by rw [hd];rfl
 have hF:=Ij (m+3) T w out hJ;unfold Fz;refine bS hr2 ?_;refine bS (v:=false) (bS (v:=91) g0 (cF rfl (bS (v:=91) g0 rfl))) ?_;refine cF rfl ?_;cases out with
 |none=>exact bS hF (cT rfl rfl)
 |some ev=>
  obtain ⟨he,e,rr,hev,hk⟩:=ho ev rfl;refine bS hF ?_;refine cF rfl ?_;refine bS (v:=e) (by show ev[0]? =_;rw [hev];rfl) ?_;refine cT (show (e.1 !=8)=true by rw [hk];rfl) ?_;refine cF rfl ?_;refine cT (show room ((0+ev.length)*73)=true from c9 (by omega)) ?_;exact bS (GK (m+3) T hT) rfl
theorem Jy (d n:Nat) (T:List Int) (x:Int) (r:List Int) (w:Int) (pr:Bool) (out:Option D7) (hT:T.length<100000) (hd:T=91::x::r)
  (ho:∀ ev,out=some ev->ev.length<10000/\∃ e rr,ev=e::rr/\e.1=3)
  (hJ:∀ q,n<=q+8->∀ m,oO q ((0:Int),(0:Int)) [((0:Int),T)] m true 0 [] []=HT T m out) (hn:20<=n):
  km (d+1) n 0 0 (w,(true,pr)) ([],[]) [((0:Int),T)] [] [] [((0:Int),T)]=S3 T out:=by
 obtain ⟨m,rfl⟩:∃ m,n=m+8:=⟨n - 8,by omega⟩;have hr:qa (m+6) 0 0 [((0:Int),T)]=some ((T,(0:Int),()),()):=oa (m+6) T 0 0 T (by rw [hd];intro c hc;cases hc;exact ⟨by decide,by decide⟩) hT (by omega) (by simp) (by omega);have e1:aR (0:Int) (len T)=true:=by rw [hd];exact bA (by unfold len;simp;omega)
 have hl:=Jc m T x r w out hT hd ho (hJ (m+3) (by omega) w);rw [km];refine cT (by simp) ?_;rw [show m+8 - 7=m+1 from rfl];unfold uZ;have hL:∀ R,(∀ y,Fz (m+3) 0 0 w ([],[]) [((0:Int),T)] [] [] [((0:Int),T)]=some y->some (match y with
   | .inl y=> .inr ((y.1.1,()),((y.2.1.1,((),(y.2.1.2.2.1,(y.2.1.2.2.2.1,())))),((y.2.2.1.1,()),((w,(true,(pr,()))),(([],([],())),())))))
   | .inr e=> .inl ((e,()),()))=R)->Cc (km d) (m+1) 0 0 [((0:Int),T)] [] [] [((0:Int),T)] w true pr [] []=R:=by
  intro R hR;rw [Cc];refine bS hr ?_;refine cT e1 ?_;refine bS (DI _ T 91 (x::r) 45 hd (by decide)) ?_;refine cF rfl ?_;refine bS (Ro _ T x r out hT hd (hJ (m+4) (by omega) _)) ?_;refine cF rfl ?_;refine bS (JP _ T x r hT hd) ?_;refine cF rfl ?_;refine cT rfl ?_;refine cT rfl ?_;refine cT rfl ?_;refine cT rfl ?_;refine bS hr ?_;refine cT e1 ?_;cases out with
  |none=>exact bS hl (hR _ hl)
  |some ev=>exact bS hl (hR _ hl)
 cases out with
 |none=>exact bS (hL _ fun y hy=>by cases hl.symm.trans hy;rfl) rfl
 |some ev=>exact bS (hL _ fun y hy=>by cases hl.symm.trans hy;rfl) rfl
set_option maxRecDepth 10000
abbrev Ev:=Int×d8
abbrev rj:=Int×g8
def dB (f:Bool):Ev:=(1,([],([],([],(0,f)))))
def dE (f:Bool):Ev:=(2,([],([],([],(0,f)))))
def oN (f:Bool):Ev:=(3,([],([],([],(0,f)))))
def cN:Ev:=(4,([],([],([],(0,false)))))
def sN (p:List UInt8):Ev:=(7,(p,([],([],(1,false)))))
def body (j m:Nat) (f:Bool) (p:List UInt8):List Ev:=List.replicate j (oN f)++(List.replicate m (sN p)++List.replicate j cN)
def od (f1 f2:Bool) (j m:Nat) (f:Bool) (p:List UInt8):List Ev:=dB f1::(body j m f p++ [dE f2])
theorem mI (f1 f2:Bool) (j m:Nat) (f:Bool) (p:List UInt8):(od f1 f2 j m f p).length=2*j+m+2:=by simp [od,body];omega
theorem Ci (i:Nat) (h:i<1000000000):zal ((i:Int)+1)=((i+1:Nat):Int):=by rw [bC]<;>omega
theorem dp {α:Type} (l:List α) (i:Nat) (h:i<l.length):aR (i:Int) (len l)=true:=bA (by unfold len;omega)
theorem SR {α:Type} (l:List α) (i:Nat) (h:l.length<=i):aR (i:Int) (len l)=false:=br (by unfold len;omega)
theorem nn (i:Nat):aQ (0:Int) (i:Int)=true:=cu (by omega)
theorem drop_at {α:Type} {l r:List α} {e:α} {i:Nat} (h:l.drop i=e::r):l[i]? =some e/\l.drop (i+1)=r/\i<l.length:=by
 refine ⟨?_,?_,?_⟩
 ·have:=congrArg (·[0]?) h;simpa using this
 ·rw [←zah,h];rfl
 ·have:=congrArg List.length h;simp at this;omega
theorem Tp (n:Nat) (f:Bool):jq n (dB f)=some (true,()):=by cases f<;>rfl
theorem SC (n:Nat) (f:Bool):jq n (dE f)=some (true,()):=by cases f<;>rfl
theorem SD (n:Nat) (f:Bool):jq n (oN f)=some (true,()):=by cases f<;>rfl
theorem Tn (n:Nat):jq n cN=some (true,()):=rfl
theorem S4 (n:Nat) (p:List UInt8):jq n (sN p)=some (true,()):=by
 unfold jq sN;simp;rfl
theorem PW (f1 f2:Bool) (j m:Nat) (f:Bool) (p:List UInt8):∀ x∈od f1 f2 j m f p,∀ n,jq n x=some (true,()):=by
 intro x hx n;simp only [od,body,List.mem_cons,List.mem_append,List.mem_replicate,List.not_mem_nil,or_false] at hx;rcases hx with rfl |((⟨_,rfl⟩ |⟨_,rfl⟩ |⟨_,rfl⟩) |rfl)
 ·exact Tp n f1
 ·exact SD n f
 ·exact S4 n p
 ·exact Tn n
 ·exact SC n f2
theorem HC (t0 l:List Ev) (hl:l.length<1000000) (hb:∀ x∈l,∀ n,jq n x=some (true,())):∀ (k n i:Nat),i+k=l.length->k<n->A9 n t0 l (len l) (i:Int)=some ((t0,()),()):=by
 intro k
 induction k with
 |zero=>
  intro n i hi hn;obtain ⟨m,rfl⟩:∃ m,n=m+1:=⟨n - 1,by omega⟩;rw [A9];exact cF (SR l i (by omega)) rfl
 |succ k ih=>
  intro n i hi hn;obtain ⟨m,rfl⟩:∃ m,n=m+1:=⟨n - 1,by omega⟩;have hg:l[i]? =some l[i]:=zaj (by omega);rw [A9];refine cT (dp l i (by omega)) ?_;refine cT (nn i) ?_;refine bS (v:=l[i]) hg ?_;refine bS (hb _ (List.getElem_mem _) _) ?_;refine cF rfl ?_;rw [Ci i (by omega)];exact ih m (i+1) (by omega) (by omega)
theorem E1 (l:List Ev) (t1:Int) (f:Bool) (rest:List Ev) (hl:l.length<10000):∀ (k m i q:Nat) (r:_),l.drop i=List.replicate k (oN f)++rest->q+k<10000->eJ m l t1 (List.replicate (q+k) (3,0)) ((i+k:Nat):Int)=r->eJ (m+k) l t1 (List.replicate q (3,0)) (i:Int)=r:=by
 intro k
 induction k with
 |zero=>intro m i q r _ _ h;exact h
 |succ k ih=>
  intro m i q r hd hq h;have hd':l.drop i=oN f::(List.replicate k (oN f)++rest):=by rw [hd,List.replicate_succ];rfl
  obtain ⟨h1,h2,h3⟩:=drop_at hd';rw [show m+(k+1)=(m+k)+1 by omega,eJ];refine cT (dp l i h3) ?_;refine cT (nn i) ?_;refine bS (v:=oN f) h1 ?_;refine bS (v:=true) rfl ?_;refine cT rfl ?_;refine cT (c9 (by simp;omega)) ?_;rw [Ci i (by omega)];have e:List.replicate q ((3:Int),(0:Int))++((oN f).1,(0:Int)):: []=List.replicate (q+1) (3,0):=by rw [List.replicate_succ'];rfl
  rw [e];refine ih m (i+1) (q+1) r h2 (by omega) ?_;rw [show q+1+k=q+(k+1) by omega,show i+1+k=i+(k+1) by omega];exact h
theorem tc {α:Type} (s:List α) (x:α) (h:s.length<100000):zal ((len (s++x:: [])) - (1:Int))=(s.length:Int):=by
 unfold len;simp;rw [bC]<;>omega
theorem nV {α:Type} (s:List α) (x:α) (h:s.length<100000):((aQ (0:Int) (zal ((len (s++x:: [])) - (1:Int)))) &&(aR (zal ((len (s++x:: [])) - (1:Int))) (len (s++x:: []))))=true:=by
 rw [tc s x h,cu (by omega),bA (by unfold len;simp;omega)];rfl
theorem I7 {α:Type} (s:List α) (x:α) (h:s.length<100000):((aQ (0:Int) (zal ((len (s++x:: [])) - (1:Int)))) &&(aQ (zal ((len (s++x:: [])) - (1:Int))) (len (s++x:: []))))=true:=by
 rw [tc s x h,cu (by omega),cu (by unfold len;simp;omega)];rfl
theorem kO {α:Type} (s:List α) (x:α) (h:s.length<100000):(s++x:: [])[(Int.toNat (zal ((len (s++x:: [])) - (1:Int))))]? =some x:=by
 rw [tc s x h];simp
theorem S6 {α:Type} (s:List α) (x y:α) (h:s.length<100000):List.set (s++x:: []) (Int.toNat (zal ((len (s++x:: [])) - (1:Int)))) y=s++y:: []:=by
 rw [tc s x h];simp
theorem E2 (l:List Ev) (t1:Int) (p:List UInt8) (rest:List Ev) (hl:l.length<10000) (q:Nat) (hq:q<10000):∀ (k m i c:Nat) (r:_),l.drop i=List.replicate k (sN p)++rest->c+k<10000->eJ m l t1 (List.replicate q (3,0)++(3,((c+k:Nat):Int)):: []) ((i+k:Nat):Int)=r->eJ (m+k) l t1 (List.replicate q (3,0)++(3,(c:Int)):: []) (i:Int)=r:=by
 intro k
 induction k with
 |zero=>intro m i c r _ _ h;exact h
 |succ k ih=>
  intro m i c r hd hc h;have hd':l.drop i=sN p::(List.replicate k (sN p)++rest):=by rw [hd,List.replicate_succ];rfl
  obtain ⟨h1,h2,h3⟩:=drop_at hd';have hs:(List.replicate q ((3:Int),(0:Int))).length<100000:=by simp;omega
  rw [show m+(k+1)=(m+k)+1 by omega,eJ];refine cT (dp l i h3) ?_;refine cT (nn i) ?_;refine bS (v:=sN p) h1 ?_;refine bS (v:=false) rfl ?_;refine cF rfl ?_;refine bS (v:=true) rfl ?_;refine cT rfl ?_;refine cT (nV _ _ hs) ?_;refine bS (kO _ _ hs) ?_;refine cT (nV _ _ hs) ?_;refine bS (kO _ _ hs) ?_;rw [S6 _ _ _ hs,Ci i (by omega)]
  show eJ (m+k) l t1 (List.replicate q (3,0)++(3,zal ((c:Int)+1)):: []) ((i+1:Nat):Int)=r
  rw [Ci c (by omega)];refine ih m (i+1) (c+1) r h2 (by omega) ?_;rw [show c+1+k=c+(k+1) by omega,show i+1+k=i+(k+1) by omega];exact h
theorem E3 (l:List Ev) (t1:Int) (rest:List Ev) (hl:l.length<10000):∀ (q n i c:Nat),l.drop i=List.replicate (q+1) cN++rest->q<n->q<10000->c<100000->eJ n l t1 (List.replicate q (3,0)++(3,(c:Int)):: []) (i:Int)=some ((((i+q+1:Nat):Int),()),()):=by
 intro q
 induction q with
 |zero=>
  intro n i c hd hn hq hc;obtain ⟨m,rfl⟩:∃ m,n=m+1:=⟨n - 1,by omega⟩;have hd':l.drop i=cN::rest:=hd;obtain ⟨h1,h2,h3⟩:=drop_at hd';have hs:(List.replicate 0 ((3:Int),(0:Int))).length<100000:=by simp
  rw [eJ];refine cT (dp l i h3) ?_;refine cT (nn i) ?_;refine bS (v:=cN) h1 ?_;refine bS (v:=false) rfl ?_;refine cF rfl ?_;refine bS (v:=false) rfl ?_;refine cF rfl ?_;refine cT (nV _ _ hs) ?_;refine bS (kO _ _ hs) ?_;refine bS (v:=true) rfl ?_;refine cF rfl ?_;refine cT (I7 _ _ hs) ?_;refine cT (by rw [tc _ _ hs];rfl) ?_;rw [Ci i (by omega)]
 |succ q ih=>
  intro n i c hd hn hq hc;obtain ⟨m,rfl⟩:∃ m,n=m+1:=⟨n - 1,by omega⟩;have hd':l.drop i=cN::(List.replicate (q+1) cN++rest):=by rw [hd,List.replicate_succ (n:=q+1)];rfl
  obtain ⟨h1,h2,h3⟩:=drop_at hd';have hs:(List.replicate (q+1) ((3:Int),(0:Int))).length<100000:=by simp;omega
  have ht:Int.toNat (zal ((len (List.replicate (q+1) ((3:Int),(0:Int))++(3,(c:Int)):: [])) - (1:Int)))=q+1:=by rw [tc _ _ hs];simp
  have hw:zal ((((q+1 - 0:Nat):Int)) - (1:Int))=(q:Int):=by rw [bC]<;>omega
  have hg:(List.replicate (q+1) ((3:Int),(0:Int))++(3,(c:Int)):: [])[0+(Int.toNat (q:Int))]? =some (3,0):=by
   rw [show 0+(Int.toNat (q:Int))=q by simp,List.getElem?_append_left (by simp),List.getElem?_replicate,if_pos (by omega)]
  have hset:List.take (q+1 - 0) (List.drop 0 (List.set (List.replicate (q+1) ((3:Int),(0:Int))++(3,(c:Int)):: []) (0+Int.toNat (q:Int)) (3,((1:Nat):Int))))=List.replicate q (3,0)++(3,((1:Nat):Int)):: []:=by
   rw [show 0+(Int.toNat (q:Int))=q by simp,List.replicate_succ',List.drop_zero,List.append_assoc,List.set_append,if_neg (by simp)];simp [List.take_append]
  rw [eJ];refine cT (dp l i h3) ?_;refine cT (nn i) ?_;refine bS (v:=cN) h1 ?_;refine bS (v:=false) rfl ?_;refine cF rfl ?_;refine bS (v:=false) rfl ?_;refine cF rfl ?_;refine cT (nV _ _ hs) ?_;refine bS (kO _ _ hs) ?_;refine bS (v:=true) rfl ?_;refine cF rfl ?_;refine cT (I7 _ _ hs) ?_;rw [ht,hw];refine cF (by rw [Bool.eq_false_iff];intro h;have:=eq_of_beq h;omega) ?_;refine cT (by rw [nn,bA (by omega)];rfl) ?_;refine bS hg ?_;refine cT (by rw [nn,bA (by omega)];rfl) ?_;refine bS hg ?_;rw [Ci i (by omega)];have e1:zal ((0:Int)+1)=((1:Nat):Int):=by rw [bC]<;>omega
  show eJ m l t1 (List.take (q+1 - 0) (List.drop 0 (List.set (List.replicate (q+1) ((3:Int),(0:Int))++(3,(c:Int)):: []) (0+Int.toNat (q:Int)) (3,zal ((0:Int)+1))))) ((i+1:Nat):Int)=_
  rw [e1,hset,ih m (i+1) 1 h2 (by omega) (by omega) (by omega),show i+1+q+1=i+(q+1)+1 by omega]
theorem mC (f1 f2:Bool) (j m:Nat) (f:Bool) (p:List UInt8):(od f1 f2 j m f p).drop 1=List.replicate j (oN f)++(List.replicate m (sN p)++(List.replicate j cN++ [dE f2])):=by
 simp [od,body]
theorem Im (f1 f2:Bool) (j m:Nat) (f:Bool) (p:List UInt8) (hj:j<300) (hm:m<300) (n:Nat) (hn:2000<=n):Ly n (od f1 f2 (j+1) m f p) 1=some (((2*j+m+3:Nat):Int),()):=by
 have hl:=mI f1 f2 (j+1) m f p;have h0:=mC f1 f2 (j+1) m f p;obtain ⟨h1,_,h3⟩:=drop_at (show (od f1 f2 (j+1) m f p).drop 1=oN f::(List.replicate j (oN f)++(List.replicate m (sN p)++(List.replicate (j+1) cN++ [dE f2]))) by rw [h0,List.replicate_succ (n:=j) (a:=oN f)];rfl);unfold Ly;refine bS (v:=false) (cF rfl (by rw [lT (by unfold len;omega)])) ?_;refine cF rfl ?_;refine cT rfl ?_;refine bS (v:=oN f) h1 ?_;refine bS (v:=false) rfl ?_;refine cF rfl ?_;refine bS (v:=true) rfl ?_;refine cF rfl ?_;refine bS (v:=((((2*j+m+3:Nat):Int),()),())) ?_ rfl;obtain ⟨k,rfl⟩:∃ k,n=k+m+(j+1):=⟨n - m - (j+1),by omega⟩;refine E1 _ _ f _ (by omega) (j+1) (k+m) 1 0 _ h0 (by omega) ?_;have h2:(od f1 f2 (j+1) m f p).drop (1+(j+1))=List.replicate m (sN p)++(List.replicate (j+1) cN++ [dE f2]):=by
  rw [←zah,h0,List.drop_left' (by simp)]
 have h4:(od f1 f2 (j+1) m f p).drop (1+(j+1)+m)=List.replicate (j+1) cN++ [dE f2]:=by
  rw [←zah,h2,List.drop_left' (by simp)]
 rw [Nat.zero_add,List.replicate_succ' (n:=j)];refine E2 _ _ p _ (by omega) j (by omega) m k (1+(j+1)) 0 _ h2 (by omega) ?_;rw [E3 _ _ _ (by omega) j k (1+(j+1)+m) (0+m) h4 (by omega) (by omega) (by omega)];rw [show 1+(j+1)+m+j+1=2*j+m+3 by omega]
theorem oM (f1 f2:Bool) (j m:Nat) (f:Bool) (p:List UInt8) (hj:j<300) (hm:m<300) (n:Nat) (hn:3000<=n):u9 n (od f1 f2 (j+1) m f p)=some (true,()):=by
 have hl:=mI f1 f2 (j+1) m f p;obtain ⟨k,rfl⟩:∃ k,n=k+2:=⟨n - 2,by omega⟩;have h0:=mC f1 f2 (j+1) m f p;have h2:(od f1 f2 (j+1) m f p).drop (2*j+m+3)= [dE f2]:=by
  rw [show 2*j+m+3=1+((j+1)+(m+(j+1))) by omega,←zah,h0,←zah,List.drop_left' (by simp),←zah,List.drop_left' (by simp),List.drop_left' (by simp)]
 obtain ⟨g1,_,_⟩:=drop_at h2;unfold u9;refine bS (HC _ _ (by omega) (PW f1 f2 (j+1) m f p) (od f1 f2 (j+1) m f p).length (k+3) 0 (by omega) (by omega)) ?_;refine bS (v:=((),())) ?_ rfl
 show Bp (k+2) (od f1 f2 (j+1) m f p) 0=_
 rw [Bp];refine cT (dp _ 0 (by omega)) ?_;refine cT rfl ?_;refine bS (v:=dB f1) rfl ?_;refine cF rfl ?_;refine bS (Im f1 f2 j m f p hj hm _ (by omega)) ?_;refine bS (v:=false) (cF (by rw [Bool.eq_false_iff];intro h;have:=eq_of_beq h;rw [show zal ((0:Int)+1)=1 from rfl] at this;omega) (cF (lT (by unfold len;omega)) (cT (nn _) (bS (v:=dE f2) g1 rfl)))) ?_;refine cF rfl ?_;rw [Bp,Ci _ (by omega)];exact cF (SR _ _ (by omega)) rfl
def yM (p:List UInt8):rj:=(1,([],(p,([],true))))
def lP (kids:List Int):rj:=(2,([],([],(kids,false))))
def pre (k:Nat):List rj:=(List.range k).map fun q=>lP [((q+1:Nat):Int)]
def eZ (a m:Nat):List Int:=(List.range m).map fun t=>((a+t:Nat):Int)
def tr (k m:Nat) (p:List UInt8):List rj:=pre k++lP (eZ (k+1) m)::List.replicate m (yM p)
theorem kL (k:Nat):(pre k).length=k:=by simp [pre]
theorem xT (a m:Nat):(eZ a m).length=m:=by simp [eZ]
theorem kN (k m:Nat) (p:List UInt8):(tr k m p).length=k+1+m:=by simp [tr,kL];omega
theorem Eb (k:Nat):pre (k+1)=pre k++ [lP [((k+1:Nat):Int)]]:=by simp [pre,List.range_succ]
theorem Nh (a m:Nat):eZ a (m+1)=eZ a m++ [((a+m:Nat):Int)]:=by simp [eZ,List.range_succ]
def tz (q:Nat):List Int:=(List.range q).map fun (t:Nat)=>(t:Int)
theorem mV (q:Nat):(tz q).length=q:=by simp [tz]
theorem pQ (q:Nat):tz (q+1)=tz q++((q:Int):: []):=by simp [tz,List.range_succ]
theorem Ts (k:Nat) (p:List UInt8):List.set (tr k 0 p++lP []:: []) k (lP [((k+1:Nat):Int)])=tr (k+1) 0 p:=by
 unfold tr;rw [List.append_assoc,List.set_append,if_neg (by simp [kL]),kL,Nat.sub_self,Eb];simp [eZ]
theorem Un (k m:Nat) (p:List UInt8):List.set (tr k m p++yM p:: []) k (lP (eZ (k+1) (m+1)))=tr k (m+1) p:=by
 unfold tr;rw [List.append_assoc,List.set_append,if_neg (by simp [kL]),kL,Nat.sub_self,List.replicate_succ' (n:=m)];simp
theorem PO (k m:Nat) (p:List UInt8) (x:rj):(tr k m p++x:: [])[k]? =some (lP (eZ (k+1) m)):=by
 unfold tr;rw [List.append_assoc,List.getElem?_append_right (by simp [kL]),kL,Nat.sub_self];rfl
theorem G1 (l:List Ev) (f:Bool) (p:List UInt8) (rest:List Ev) (D N:Int) (hl:l.length<10000):∀ (r m i k:Nat) (res:_),l.drop i=List.replicate r (oN f)++rest->k+r<2000->((k+r+1:Nat):Int)<=D->((k+r+1:Nat):Int)<=N->
  cX m l (len l) ((i+r:Nat):Int) (tr (k+r) 0 p) [0] (tz (k+r+1)) D N=res->cX (m+r) l (len l) (i:Int) (tr k 0 p) [0] (tz (k+1)) D N=res:=by
 intro r
 induction r with
 |zero=>intro m i k res _ _ _ _ h;exact h
 |succ r ih=>
  intro m i k res hd hk hD hN h;have hd':l.drop i=oN f::(List.replicate r (oN f)++rest):=by rw [hd,List.replicate_succ];rfl
  obtain ⟨h1,h2,h3⟩:=drop_at hd';have hs:(tz k).length<100000:=by rw [mV];omega
  have ln:len (tr k 0 p)=((k+1:Nat):Int):=by unfold len;rw [kN]
  have ls:len (tz (k+1))=((k+1:Nat):Int):=by unfold len;rw [mV]
  rw [show m+(r+1)=(m+r)+1 by omega,cX];refine cT (dp l i h3) ?_;refine cT (nn i) ?_;refine bS (v:=oN f) h1 ?_;refine cF rfl ?_;refine cT rfl ?_;refine cF (by rw [ls];exact lT (by omega)) ?_;refine cF (by rw [ln];exact lT (by omega)) ?_;refine cT (c9 (by rw [kN];simp;omega)) ?_;refine cF (by rw [ls,Bool.eq_false_iff];intro h;have:=eq_of_beq h;omega) ?_;have e1:=nV (tz k) (k:Int) hs;have e2:=kO (tz k) (k:Int) hs;rw [←pQ] at e1 e2;refine cT e1 ?_;refine bS e2 ?_;refine cT (by rw [nn,bA (by unfold len;rw [zaf,kN];simp;omega)];rfl) ?_;refine bS (v:=lP (eZ (k+1) 0)) (PO k 0 p _) ?_;refine cT (show room ((0+1)*9)=true from rfl) ?_;refine cT (by simp) ?_;refine cF rfl ?_;refine cT (c9 (by rw [mV];simp;omega)) ?_;rw [ln,Ci i (by omega)]
  show cX (m+r) l (len l) ((i+1:Nat):Int) (List.set (tr k 0 p++lP []:: []) k (lP [((k+1:Nat):Int)])) [0] (tz (k+1)++((k+1:Nat):Int):: []) D N=res
  rw [Ts,←pQ];refine ih m (i+1) (k+1) res h2 (by omega) (by omega) (by omega) ?_;rw [show k+1+r=k+(r+1) by omega,show i+1+r=i+(r+1) by omega];exact h
theorem G2 (l:List Ev) (p:List UInt8) (rest:List Ev) (D N:Int) (hl:l.length<10000) (k:Nat) (hk:k<2000):∀ (r n i m:Nat) (res:_),l.drop i=List.replicate r (sN p)++rest->m+r<2000->((k+1+m+r:Nat):Int)<=N->
  cX n l (len l) ((i+r:Nat):Int) (tr k (m+r) p) [0] (tz (k+1)) D N=res->cX (n+r) l (len l) (i:Int) (tr k m p) [0] (tz (k+1)) D N=res:=by
 intro r
 induction r with
 |zero=>intro n i m res _ _ _ h;exact h
 |succ r ih=>
  intro n i m res hd hm hN h;have hd':l.drop i=sN p::(List.replicate r (sN p)++rest):=by rw [hd,List.replicate_succ];rfl
  obtain ⟨h1,h2,h3⟩:=drop_at hd';have hs:(tz k).length<100000:=by rw [mV];omega
  have ln:len (tr k m p)=((k+1+m:Nat):Int):=by unfold len;rw [kN]
  have ls:len (tz (k+1))=((k+1:Nat):Int):=by unfold len;rw [mV]
  rw [show n+(r+1)=(n+r)+1 by omega,cX];refine cT (dp l i h3) ?_;refine cT (nn i) ?_;refine bS (v:=sN p) h1 ?_;refine cF rfl ?_;refine cF rfl ?_;refine cF rfl ?_;refine cF rfl ?_;refine cF rfl ?_;refine cT rfl ?_;refine cF (by rw [ln];exact lT (by omega)) ?_;refine cT (c9 (by rw [kN];simp;omega)) ?_;refine cF (by rw [ls,Bool.eq_false_iff];intro h;have:=eq_of_beq h;omega) ?_;have e1:=nV (tz k) (k:Int) hs;have e2:=kO (tz k) (k:Int) hs;rw [←pQ] at e1 e2;refine cT e1 ?_;refine bS e2 ?_;refine cT (by rw [nn,bA (by unfold len;rw [zaf,kN];simp;omega)];rfl) ?_;refine bS (v:=lP (eZ (k+1) m)) (PO k m p _) ?_;refine cT (show room (((eZ (k+1) m).length+1)*9)=true from c9 (by rw [xT];omega)) ?_;refine cT (by simp) ?_;refine cF rfl ?_;rw [ln,Ci i (by omega)]
  show cX (n+r) l (len l) ((i+1:Nat):Int) (List.set (tr k m p++yM p:: []) k (lP (eZ (k+1) m++ [((k+1+m:Nat):Int)]))) [0] (tz (k+1)) D N=res
  rw [←Nh,Un];refine ih n (i+1) (m+1) res h2 (by omega) (by omega) ?_;rw [show m+1+r=m+(r+1) by omega,show i+1+r=i+(r+1) by omega];exact h
theorem G3 (l:List Ev) (rest:List Ev) (D N:Int) (hl:l.length<10000) (g:List rj):∀ (r n i:Nat) (res:_),l.drop i=List.replicate r cN++rest->r<2000->cX n l (len l) ((i+r:Nat):Int) g [0] [] D N=res->cX (n+r) l (len l) (i:Int) g [0] (tz r) D N=res:=by
 intro r
 induction r with
 |zero=>intro n i res _ _ h;exact h
 |succ r ih=>
  intro n i res hd hr h;have hd':l.drop i=cN::(List.replicate r cN++rest):=by rw [hd,List.replicate_succ];rfl
  obtain ⟨h1,h2,h3⟩:=drop_at hd';have hs:(tz r).length<100000:=by rw [mV];omega
  rw [show n+(r+1)=(n+r)+1 by omega,cX,pQ];refine cT (dp l i h3) ?_;refine cT (nn i) ?_;refine bS (v:=cN) h1 ?_;refine cF rfl ?_;refine cF rfl ?_;refine cF rfl ?_;refine cT rfl ?_;refine cT (I7 _ _ hs) ?_;rw [Ci i (by omega),tc _ _ hs];have e:List.take (Int.toNat ((tz r).length:Int) - 0) (List.drop 0 (tz r++((r:Int):: [])))=tz r:=by simp
  rw [e];refine ih n (i+1) res h2 (by omega) ?_;rw [show i+1+r=i+(r+1) by omega];exact h
abbrev Ye:=Option ((ip×(ip×(((List rj)×(bv×(Unit×(bv×g7))))×Unit)))⊕((Unit×dg)×(ip×(((List rj)×(bv×(Unit×(bv×g7))))×Unit))))
theorem G0 (f1 f2:Bool) (j m:Nat) (f:Bool) (p:List UInt8) (D N:Int) (hj:j<300) (hm:m<300) (n:Nat) (hD:1<=D) (hN:1<=N) (res:Ye)
  (h:cX n (od f1 f2 (j+1) m f p) (len (od f1 f2 (j+1) m f p)) ((2:Nat):Int) (tr 0 0 p) [0] (tz 1) D N=res):
  cX (n+2) (od f1 f2 (j+1) m f p) (len (od f1 f2 (j+1) m f p)) 0 [] [] [] D N=res:=by
 have hl:=mI f1 f2 (j+1) m f p;have h0:=mC f1 f2 (j+1) m f p;obtain ⟨h1,_,h3⟩:=drop_at (show (od f1 f2 (j+1) m f p).drop 1=oN f::(List.replicate j (oN f)++(List.replicate m (sN p)++(List.replicate (j+1) cN++ [dE f2]))) by rw [h0,List.replicate_succ (n:=j) (a:=oN f)];rfl);rw [cX];refine cT (dp _ 0 (by omega)) ?_;refine cT rfl ?_;refine bS (v:=dB f1) rfl ?_;refine cT rfl ?_;rw [show zal ((0:Int)+1)=((1:Nat):Int) from rfl,cX];refine cT (dp _ 1 h3) ?_;refine cT rfl ?_;refine bS (v:=oN f) h1 ?_;refine cF rfl ?_;refine cT rfl ?_;refine cF (show aQ D 0=false from lT (by omega)) ?_;refine cF (show aQ N 0=false from lT (by omega)) ?_;refine cT rfl ?_;refine cT rfl ?_;refine cT rfl ?_;refine cF rfl ?_;refine cT rfl ?_;exact h
theorem AA (f1 f2:Bool) (j m:Nat) (f:Bool) (p:List UInt8):(od f1 f2 (j+1) m f p).drop 2=List.replicate j (oN f)++(List.replicate m (sN p)++(List.replicate (j+1) cN++ [dE f2])):=by
 simp [od,body,List.replicate_succ]
theorem WR (l:List Ev) (f2:Bool) (g:List rj) (D N:Int) (n i:Nat) (hl:l.length<10000) (hd:l.drop i= [dE f2]) (hi:l.length=i+1):cX (n+2) l (len l) (i:Int) g [0] [] D N=some (.inl (((),((),())),(((),((),())),((g,([0],((),([],(D,(N,())))))),())))):=by
 obtain ⟨h1,h2,h3⟩:=drop_at hd;rw [cX];refine cT (dp l i h3) ?_;refine cT (nn i) ?_;refine bS (v:=dE f2) h1 ?_;refine cF rfl ?_;refine cF rfl ?_;refine cF rfl ?_;refine cF rfl ?_;refine cF rfl ?_;refine cF rfl ?_;refine cF rfl ?_;rw [Ci i (by omega),cX];exact cF (SR l (i+1) (by omega)) rfl
def vg (a b:Int):Int:=bif (aR b a) then b else a
theorem XU (f1 f2:Bool) (j m:Nat) (f:Bool) (p:List UInt8) (D N:Int) (hj:j<300) (hm:m<300) (n:Nat) (hn:3000<=n) (hD:((j+1:Nat):Int)<=vg D 200) (hN:((j+1+m:Nat):Int)<=vg N 20000):
  rW n (od f1 f2 (j+1) m f p) D N=some ((tr j m p,[0]),(0:Int),()):=by
 have hl:=mI f1 f2 (j+1) m f p;have h2:=AA f1 f2 j m f p;have h3:(od f1 f2 (j+1) m f p).drop (2+j)=List.replicate m (sN p)++(List.replicate (j+1) cN++ [dE f2]):=by rw [←zah,h2,List.drop_left' (by simp)]
 have h4:(od f1 f2 (j+1) m f p).drop (2+j+m)=List.replicate (j+1) cN++ [dE f2]:=by rw [←zah,h3,List.drop_left' (by simp)]
 have h5:(od f1 f2 (j+1) m f p).drop (2+j+m+(j+1))= [dE f2]:=by rw [←zah,h4,List.drop_left' (by simp)]
 unfold rW;refine bS (oM f1 f2 j m f p hj hm _ (by omega)) ?_;refine cF rfl ?_;refine bS (v:= .inl (((),((),())),(((),((),())),((tr j m p,([0],((),([],(vg D 200,(vg N 20000,())))))),())))) ?_ rfl;obtain ⟨k,rfl⟩:∃ k,n=k+2+(j+1)+m+j+2:=⟨n - 2 - (j+1) - m - j - 2,by omega⟩;refine G0 f1 f2 j m f p (vg D 200) (vg N 20000) hj hm _ (by omega) (by omega) _ ?_;refine G1 _ f p _ _ _ (by omega) j _ 2 0 _ h2 (by omega) (by omega) (by omega) ?_;rw [Nat.zero_add];refine G2 _ p _ _ _ (by omega) j (by omega) m _ (2+j) 0 _ h3 (by omega) (by omega) ?_;rw [Nat.zero_add];refine G3 _ _ _ _ (by omega) _ (j+1) _ (2+j+m) _ h4 (by omega) ?_;exact WR _ f2 _ _ _ k _ (by omega) h5 (by omega)
theorem Uk (f1 f2:Bool) (m:Nat) (f:Bool) (p:List UInt8) (D N:Int) (hm:m<300) (n:Nat) (hn:3000<=n) (hD:1<=vg D 200) (hN0:0<=vg N 20000) (hN:vg N 20000<((1+m:Nat):Int)):
  rW n (od f1 f2 1 m f p) D N=some (([],([]:List Int)),(9:Int),()):=by
 have hl:=mI f1 f2 1 m f p;have h2:=AA f1 f2 0 m f p;unfold rW;refine bS (oM f1 f2 0 m f p (by omega) hm _ (by omega)) ?_;refine cF rfl ?_;by_cases hz:vg N 20000=0
 ·obtain ⟨k,rfl⟩:∃ k,n=k+2:=⟨n - 2,by omega⟩
  have h0:=mC f1 f2 1 m f p;obtain ⟨h1,_,h3⟩:=drop_at (show (od f1 f2 1 m f p).drop 1=oN f::(List.replicate m (sN p)++(List.replicate 1 cN++ [dE f2])) by rw [h0];rfl);refine bS (v:= .inr (((),((9:Int),())),(((),((),())),(([],([],((),([],(vg D 200,(vg N 20000,())))))),())))) ?_ rfl
  show cX (k+2) _ _ 0 [] [] [] (vg D 200) (vg N 20000)=_
  rw [cX];refine cT (dp _ 0 (by omega)) ?_;refine cT rfl ?_;refine bS (v:=dB f1) rfl ?_;refine cT rfl ?_;rw [show zal ((0:Int)+1)=((1:Nat):Int) from rfl,cX];refine cT (dp _ 1 h3) ?_;refine cT rfl ?_;refine bS (v:=oN f) h1 ?_;refine cF rfl ?_;refine cT rfl ?_;refine cF (show aQ (vg D 200) 0=false from lT (by omega)) ?_;exact cT (show aQ (vg N 20000) 0=true from cu (by omega)) rfl
 ·obtain ⟨q,hq⟩:∃ q:Nat,vg N 20000=((q+1:Nat):Int):=⟨(vg N 20000).toNat - 1,by omega⟩
  obtain ⟨r,hr⟩:∃ r,m=q+(r+1):=⟨m - q - 1,by omega⟩;have h2':(od f1 f2 1 m f p).drop 2=List.replicate q (sN p)++(sN p::(List.replicate r (sN p)++(List.replicate 1 cN++ [dE f2]))):=by
   rw [h2,hr,←List.replicate_append_replicate,List.replicate_succ];simp
  have h3:(od f1 f2 1 m f p).drop (2+q)=sN p::(List.replicate r (sN p)++(List.replicate 1 cN++ [dE f2])):=by
   rw [←zah,h2',List.drop_left' (by simp)]
  obtain ⟨g1,g2,g3⟩:=drop_at h3;obtain ⟨k,rfl⟩:∃ k,n=k+1+q+2:=⟨n - 1 - q - 2,by omega⟩;refine bS (v:= .inr (((),((9:Int),())),(((),((),())),((tr 0 q p,([0],((),(tz 1,(vg D 200,(vg N 20000,())))))),())))) ?_ rfl;refine G0 f1 f2 0 m f p (vg D 200) (vg N 20000) (by omega) hm _ (by omega) (by omega) _ ?_;refine G2 _ p _ _ _ (show (od f1 f2 (0+1) m f p).length<10000 by rw [mI];omega) 0 (by omega) q _ 2 0 _ h2' (by omega) (by omega) ?_;simp only [Nat.zero_add];rw [cX];refine cT (dp _ _ g3) ?_;refine cT (nn _) ?_;refine bS (v:=sN p) g1 ?_;refine cF rfl ?_;refine cF rfl ?_;refine cF rfl ?_;refine cF rfl ?_;refine cF rfl ?_;refine cT rfl ?_;exact cT (by unfold len;rw [kN];exact cu (by omega)) rfl
set_option maxRecDepth 10000
theorem W5 (k q:Nat) (hk:k<400) (m:Int) (hq:3000<=q):oO q ((0:Int),(0:Int)) [((0:Int),91::q0 k)] m true 0 [] []=HT (91::q0 k) m (some (body 1 k true [97])):=by
 obtain ⟨d,rfl⟩:∃ d,q=d+11:=⟨q - 11,by omega⟩;have hl:=B4 k;obtain ⟨x,r,hx,h1,h2⟩:=C0 k;have hT:(91::q0 k).length=2*k+2:=by simp [hl]
 have hloop:=Ub (d+9) (91::q0 k) (by omega) m 3 [] k (d+4) 1 ([]++ [sS]) rfl (by omega) (by simp;omega)
 show gf ((d+10)+1) (d+11) _ _ _ _ _ _ _=_
 refine (Mr (d+10) (d+4) (91::q0 k) 0 (1+2*k) x r m [] [] _ (by omega) (by rw [←hx];rfl) h1 h2 (by simp) (by simp;omega) (by simp) hloop (by omega)).trans ?_;unfold HT;rw [show ((91::q0 k).length:Int)=((1+2*k+1:Nat):Int) by rw [hT];omega];have e: []++ [sS]++List.replicate k WA++ [sE]=body 1 k true [97]:=by
  show sS::(List.replicate k WA)++ [sE]=_
  unfold body;rfl
 rw [e]
theorem Xf (k n:Nat) (hk:k<400) (hn:4000<=n):K9 n 0 0 (-1,(true,false)) ([],[]) [((0:Int),91::q0 k)] [] [] [((0:Int),91::q0 k)]=S3 (91::q0 k) (some (body 1 k true [97])):=by
 obtain ⟨d,rfl⟩:∃ d,n=d+1:=⟨n - 1,by omega⟩;have hl:=B4 k;obtain ⟨x,r,hx,h1,h2⟩:=C0 k
 show km (d+1) (d+1) _ _ _ _ _ _ _ _=_
 exact Jy d (d+1) (91::q0 k) x r (-1) false (some (body 1 k true [97])) (by simp;omega) (by rw [←hx]) (fun ev he=>by cases he;exact ⟨by simp [body];omega,_,_,rfl,rfl⟩) (fun q hq m=>W5 k q hk m (by omega)) (by omega)
set_option maxRecDepth 10000
def lt7 (x:UInt8):Prop:=32<=x.toNat/\x.toNat<=126
theorem QM (x:UInt8):ub x=(x.toNat:Int):=rfl
theorem XW (m:Nat) (r:List UInt8):form (m+60) (91::93::r)=some (1,0,()):=by kernel_rfl
theorem XD (m:Nat) (r:List UInt8):form (m+60) (91::97::r)=some (1,0,()):=by kernel_rfl
theorem UH (n:Nat) (x:UInt8) (r:List UInt8) (h:lt7 x):dr n (x::r)=some (ub x,1,()):=by
 have h1:32<=x.toNat:=h.1;have h2:x.toNat<=126:=h.2;unfold dr;refine bS (v:=((IntKind.wrap Go.IntKind.i32 (ub x),((1:Int),())),())) ?_ ?_
 ·rw [PF]
  refine cT (dp (x::r) 0 (by simp)) ?_;refine cT rfl ?_;refine bS (v:=x) rfl ?_;refine cT (by show Nat.blt x.toNat 128=true;rw [Nat.blt_eq];omega) ?_;rfl
 ·show some (IntKind.wrap Go.IntKind.i32 (ub x),(1:Int),())=_
  have:IntKind.wrap .i32 (ub x)=ub x:=N6 x;rw [this]
theorem S1 (n:Nat) (c:Int) (h1:0<=c) (h2:c<=1000):is n c=some (true,()):=by
 unfold is;refine bS (v:=true) ?_ rfl;refine cT (cu h1) ?_;refine cT (cu (by omega)) ?_;exact cT (bA (by omega)) rfl
theorem EN:∀ (r:List UInt8) (n:Nat) (a:List Int),(∀ x∈r,lt7 x)->r.length<n->a.length+r.length<=10000->
  tQ n 0 a r=some ((),(((),()),(((0:Int),()),((a++r.map ub,()),(([],()),(((),((),((),()))),())))))):=by
 intro r
 induction r with
 |nil=>
  intro n a _ hn _;obtain ⟨m,rfl⟩:∃ m,n=m+1:=⟨n - 1,by omega⟩;rw [tQ];exact cF rfl (by simp)
 |cons x r ih=>
  intro n a hr hn ha;obtain ⟨m,rfl⟩:∃ m,n=m+1:=⟨n - 1,by omega⟩;simp at hn ha;have hx:lt7 x:=hr x (List.mem_cons_self ..);have h1:32<=x.toNat:=hx.1;have h2:x.toNat<=126:=hx.2;have w:zal (ub x)=ub x:=by rw [QM];exact bC (by omega) (by omega)
  rw [tQ];refine cT (dp (x::r) 0 (by simp)) ?_;refine bS (UH _ x r hx) ?_;refine bS (v:=false) (cF (by rw [gz];exact decide_eq_false (by rw [QM];omega)) rfl) ?_;refine cF rfl ?_;refine bS (S1 _ _ (by rw [w,QM];omega) (by rw [w,QM];omega)) ?_;refine cF rfl ?_;refine cT (c9 (by simp;omega)) ?_;refine cT (by rw [show aQ (0:Int) 1=true from rfl,show aQ (1:Int) (len (x::r))=true from cu (by unfold len;simp;omega)];rfl) ?_;have e:List.take ((x::r).length - Int.toNat 1) (List.drop (Int.toNat 1) (x::r))=r:=by simp
  show tQ m 0 (a++(zal (ub x)):: []) (List.take ((x::r).length - Int.toNat 1) (List.drop (Int.toNat 1) (x::r)))=_
  rw [e,w,ih m (a++ [ub x]) (fun y hy=>hr y (zak _ hy)) (by omega) (by simp;omega)];simp
theorem Eu (n:Nat) (b:List UInt8) (hb:∀ x∈b,lt7 x) (hl:b.length<=5000) (hf:form n b=some (1,0,())) (hn:b.length<n):points n b=some (b.map ub,(0:Int),()):=by
 unfold points;refine cF (br (by unfold len;omega)) ?_;refine bS hf ?_;refine cT (by rw [show aQ (0:Int) 0=true from rfl,show aQ (0:Int) (len b)=true from cu (by unfold len;omega)];rfl) ?_;refine cF rfl ?_;refine cF rfl ?_;refine cF rfl ?_;refine cF rfl ?_;have e:List.take (b.length - Int.toNat 0) (List.drop (Int.toNat 0) b)=b:=by simp
 show Option.bind (tQ n 0 [] (List.take (b.length - Int.toNat 0) (List.drop (Int.toNat 0) b))) _=_
 rw [e];refine bS (EN b n [] hb hn (by simp;omega)) ?_;rfl
theorem HZ (t0:List Int) (t3:Int) (l:List Int) (hl:l.length<10000) (h:∀ c∈l,32<=c/\c<=126):∀ (k n i:Nat),i+k=l.length->k<n->Bd n t0 t3 l (len l) (i:Int)=some ((t0,((),(t3,()))),()):=by
 intro k
 induction k with
 |zero=>
  intro n i hi hn;obtain ⟨m,rfl⟩:∃ m,n=m+1:=⟨n - 1,by omega⟩;rw [Bd];exact cF (SR l i (by omega)) rfl
 |succ k ih=>
  intro n i hi hn;obtain ⟨m,rfl⟩:∃ m,n=m+1:=⟨n - 1,by omega⟩;have hlt:i<l.length:=by omega
  have hc:=h _ (List.getElem_mem hlt);have e2:l[Int.toNat (i:Int)]? =some l[i]:=zaj hlt;generalize l[i]=c at e2 hc;rw [Bd];refine cT (dp l i hlt) ?_;refine cT (nn i) ?_;refine bS e2 ?_;refine bS (wq _ c (by omega) (by omega)) ?_;refine cF rfl ?_;refine cF (by rw [gz];exact decide_eq_false (by omega)) ?_;rw [Ci i (by omega)];exact ih m (i+1) (by omega) (by omega)
theorem JV (l:List Int) (hl:l.length<10000) (h:∀ c∈l,32<=c/\c<=126):∀ (k n i:Nat),i+k=l.length->k<n->A5 n l (len l) (i:Int)=some ((),()):=by
 intro k
 induction k with
 |zero=>
  intro n i hi hn;obtain ⟨m,rfl⟩:∃ m,n=m+1:=⟨n - 1,by omega⟩;rw [A5];exact cF (SR l i (by omega)) rfl
 |succ k ih=>
  intro n i hi hn;obtain ⟨m,rfl⟩:∃ m,n=m+1:=⟨n - 1,by omega⟩;have hlt:i<l.length:=by omega
  have hc:=h _ (List.getElem_mem hlt);have e2:l[Int.toNat (i:Int)]? =some l[i]:=zaj hlt;generalize l[i]=c at e2 hc;rw [A5];refine cT (dp l i hlt) ?_;refine cT (nn i) ?_;refine bS e2 ?_;refine bS (v:=false) (cF (by rw [gz];exact decide_eq_false (by omega)) (by rw [show (c==13)=false from by rw [gz];exact decide_eq_false (by omega)])) ?_;refine cF rfl ?_;rw [Ci i (by omega)];exact ih m (i+1) (by omega) (by omega)
theorem HO (n:Nat) (x:Int) (r:List Int) (hl:(x::r).length<5000) (h:∀ c∈x::r,32<=c/\c<=126) (hx:x≠32) (hn:6000<=n):jE n (x::r)=some ([((0:Int),x::r)],(0:Int),()):=by
 obtain ⟨m,rfl⟩:∃ m,n=m+1:=⟨n - 1,by omega⟩;unfold jE;refine bS (HZ (x::r) 0 (x::r) (by omega) h _ (m+1+1) 0 (Nat.zero_add _) (by omega)) ?_
 show Option.bind (K6 (m+1) (x::r)) _=_
 refine bS (v:=((),(([((0:Int),x::r)],()),((x::r,()),(((),()),()))))) ?_ rfl;rw [K6];refine cT (dp (x::r) 0 (by simp)) ?_;refine bS (JV (x::r) (by omega) h _ (m+1) 0 (Nat.zero_add _) (by omega)) ?_;refine bS (v:=(((),(x::r,((0:Int),()))),(((),()),(((),()),())))) ?_ ?_
 ·rw [sr]
  refine bS (v:=false) (cT (dp (x::r) 0 (by simp)) (cT rfl (bS (v:=x) rfl (by rw [show (x==32)=false from by rw [gz];exact decide_eq_false hx])))) ?_;exact cF rfl rfl
 ·refine cT (by rw [show aQ (0:Int) (len (x::r))=true from cu (by unfold len;omega)];rfl) ?_
  have e:List.take ((x::r).length - Int.toNat 0) (List.drop (Int.toNat 0) (x::r))=x::r:=by simp
  show (bif (!(List.isEmpty (List.take ((x::r).length - Int.toNat 0) (List.drop (Int.toNat 0) (x::r))))) then _ else _)=_
  refine cT (by rw [e];rfl) ?_;refine cT (by rw [e];exact c9 (by omega)) ?_
  show some ((),(([((0:Int),[]++List.take ((x::r).length - Int.toNat 0) (List.drop (Int.toNat 0) (x::r)))],()),((x::r,()),(((),()),()))))=_
  rw [e];rfl
set_option maxRecDepth 10000
structure TH (T:List Int) (x y:Int) (r:List Int):Prop where
 eq:T=x::y::r
 len:T.length<5000
 bl:Ka x=false
 ZE:x≠35
 ZK:x≠37
 Zr:x≠46
 ZN:x≠45∨y≠45
theorem PG {T:List Int} {x y:Int} {r:List Int} (h:TH T x y r) (n:Nat):bare (n+1) ((0:Int),T)=some (false,()):=by
 unfold bare;rw [h.eq];refine bS (v:=((x::y::r,()),())) ?_ ?_
 ·rw [HU]
  refine cT (dp (x::y::r) 0 (by simp)) ?_;refine bS (v:=x) rfl ?_;refine bS (ej _ _) ?_;exact cF h.bl rfl
 ·refine bS (v:=false) (cF (by unfold len;rw [gz];exact decide_eq_false (by simp;omega)) (bS (v:=x) rfl (by rw [show (x==35)=false from by rw [gz];exact decide_eq_false h.ZE]))) ?_
  rfl
theorem zE {T:List Int} {x y:Int} {r:List Int} (h:TH T x y r) (n:Nat):nu (n+3) ((45:Int)::((46:Int)::([]:List Int))) 2 0 0 T=some ((),((0,(T,())),())):=by
 have g0:T[0]? =some x:=by rw [h.eq];rfl
 have g1:T[1]? =some y:=by rw [h.eq];rfl
 have l2:nu (n+2) ((45:Int)::((46:Int)::([]:List Int))) 2 1 0 T=some ((),((0,(T,())),())):=by
  rw [nu];refine cT rfl ?_;refine cT rfl ?_;refine bS (v:=46) rfl ?_;refine bS g0 ?_;refine cF (by rw [gz];exact decide_eq_false h.Zr) ?_;rw [show zal ((1:Int)+1)=2 from rfl,nu];exact cF rfl rfl
 rw [nu];refine cT rfl ?_;refine cT rfl ?_;refine bS (v:=45) rfl ?_;refine bS g0 ?_;by_cases hx:x=45
 ·refine cT (by rw [gz];exact decide_eq_true hx) ?_
  refine bS g1 ?_;refine cF (by rw [gz];exact decide_eq_false (h.ZN.resolve_left (fun k=>k hx))) ?_;exact l2
 ·refine cF (by rw [gz];exact decide_eq_false hx) ?_
  exact l2
theorem wx {T:List Int} {x y:Int} {r:List Int} (h:TH T x y r) (n:Nat):oF (n+2) ((0:Int),T)=some ((0:Int),()):=by
 unfold oF;refine cF rfl ?_;by_cases h1:T.length<3
 ·exact cT (show aR (len T) 3=true from bA (by unfold len;omega)) rfl
 ·refine cF (show aR (len T) 3=false from br (by unfold len;omega)) ?_
  by_cases h2:3<T.length
  ·refine cT (show aR 3 (len T)=true from bA (by unfold len;omega)) ?_
   refine bS (show T[3]? =some T[3] from zaj h2) ?_;refine bS (ej _ _) ?_;cases hb:Ka T[3] with
   |false=>exact cT rfl rfl
   |true=>
    refine cF rfl ?_;exact bS (zE h n) rfl
  ·refine cF (show aR 3 (len T)=false from br (by unfold len;omega)) ?_
   exact bS (zE h n) rfl
theorem Ir (a:List Ev) (ha:a.length<10000) (ht:∀ e∈a,e.2.2.1= []):∀ (k n i:Nat),i+k=a.length->k<n->ll n (len a) (i:Int) a=some (((),()),(((),()),(a,()))):=by
 intro k
 induction k with
 |zero=>
  intro n i hi hn;obtain ⟨m,rfl⟩:∃ m,n=m+1:=⟨n - 1,by omega⟩;rw [ll];exact cF (SR a i (by omega)) rfl
 |succ k ih=>
  intro n i hi hn;obtain ⟨m,rfl⟩:∃ m,n=m+1:=⟨n - 1,by omega⟩;have hlt:i<a.length:=by omega
  have e1:((aQ (0:Int) (i:Int)) &&(aR (i:Int) (len a)))=true:=by rw [nn,dp _ _ hlt];rfl
  have e2:a[Int.toNat (i:Int)]? =some a[i]:=zaj hlt;have hx:=ht _ (List.getElem_mem hlt);have es:List.set a (Int.toNat (i:Int)) a[i]=a:=by simp
  generalize a[i]=e at e2 hx es;rw [ll];refine cT (dp a i hlt) ?_;refine cT e1 ?_;refine bS e2 ?_;refine bS (v:=true) (cT (by rw [hx];rfl) rfl) ?_;refine cT rfl ?_;refine cT e1 ?_;refine bS e2 ?_;rw [Ci i (by omega)];refine Eq.trans ?_ (ih m (i+1) (by omega) (by omega));exact congrArg (ll m (len a) ((i+1:Nat):Int)) es
theorem KR {T:List Int} {x y:Int} {r:List Int} (h:TH T x y r) (n:Nat) (out:List Ev):AG (n+5) [((0:Int),T)] 0 out=some ((false,true,()),(([((0:Int),T)],(0,(out,()))),())):=by
 unfold AG;refine bS (v:=((),(([((0:Int),T)],((0:Int),(out,()))),()))) ?_ ?_
 ·rw [KG]
  refine cT rfl ?_;refine cT rfl ?_;refine bS (v:=((0:Int),T)) rfl ?_;refine bS (PG h _) ?_;exact cF rfl rfl
 ·refine bS (v:=((false,()),(([((0:Int),T)],((0:Int),(out,()))),()))) ?_ rfl
  show AT (n+7) false [((0:Int),T)] 0 out=_
  rw [AT];refine cT rfl ?_;refine cT rfl ?_;refine bS (v:=((0:Int),T)) rfl ?_;refine bS (wx h _) ?_;exact cF rfl rfl
theorem Tj (T:List Int) (n:Nat) (out:List Ev):AG (n+5) [((0:Int),T)] 1 out=some ((false,true,()),(([((0:Int),T)],(1,(out,()))),())):=by
 unfold AG;refine bS (v:=((),(([((0:Int),T)],((1:Int),(out,()))),()))) ?_ ?_
 ·rw [KG]
  exact cF rfl rfl
 ·refine bS (v:=((false,()),(([((0:Int),T)],((1:Int),(out,()))),()))) ?_ rfl
  show AT (n+7) false [((0:Int),T)] 1 out=_
  rw [AT];exact cF rfl rfl
theorem K3 {T:List Int} {x y:Int} {r:List Int} (h:TH T x y r) (n:Nat) (out:List Ev):Kh n [((0:Int),T)] 0 out=some (((0:Int),()),(([((0:Int),T)],(0,(out,()))),(((),()),()))):=by
 unfold Kh;refine bS (v:=(((),(false,())),(([((0:Int),T)],((0:Int),(out,()))),(((),()),(((0:Int),()),()))))) ?_ ?_
 ·rw [Oy]
  refine cT rfl ?_;refine cT rfl ?_;refine bS (v:=((0:Int),T)) rfl ?_;refine cT rfl ?_;refine cT (dp T 0 (by rw [h.eq];simp)) ?_;refine bS (v:=x) (by rw [h.eq];rfl) ?_;exact cF (by rw [gz];exact decide_eq_false h.ZK) rfl
 ·exact cF rfl rfl
structure PX (T:List Int) (out:Option (List Ev)):Prop where
 pn:∀ n,4000<=n->K9 n 0 0 (-1,(true,false)) ([],[]) [((0:Int),T)] [] [] [((0:Int),T)]=S3 T out
 ne:∀ e,out=some e->e≠ []/\e.length<3000/\∀ x∈e,x.2.2.1= []
theorem AJ (T:List Int) (n:Nat):pk (n+2) [((0:Int),T)]=some ([((0:Int),T)],()):=by
 unfold pk;refine bS (v:=((),())) ?_ rfl;rw [wh];refine cT rfl ?_;refine cT rfl ?_;refine bS (v:=((0:Int),T)) rfl ?_;refine cF rfl ?_;rw [show zal ((0:Int)+1)=1 from rfl,wh];exact cF rfl rfl
def YX:Option (List Ev)->Option (List Ev×g7)
 |some ev=>some (ev,(1:Int),(0:Int),())
 |none=>some ([],(0:Int),(8:Int),())
theorem Lx (T:List Int) (out:Option (List Ev)) (ho:PX T out) (n:Nat) (hn:4000<=n):Li n [((0:Int),T)] 0 0=YX out:=by
 obtain ⟨m,rfl⟩:∃ m,n=m+2:=⟨n - 2,by omega⟩;unfold Li;refine bS (AJ T (m+1)) ?_;refine cF rfl ?_;refine cF rfl ?_;refine cF rfl ?_;refine cT rfl ?_;refine bS (v:=((0:Int),T)) rfl ?_;refine cT rfl ?_;refine bS (v:=((0:Int),T)) rfl ?_;refine cF (show aR (len T) 0=false from br (by unfold len;omega)) ?_;refine bS (AJ T m) ?_;cases out with
 |none=>
  refine bS ((ho.pn (m+4) (by omega)).trans rfl) ?_;exact cT rfl rfl
 |some ev=>
  refine bS ((ho.pn (m+4) (by omega)).trans rfl) ?_;refine bS (HX (m+1) T) ?_;exact cT rfl rfl
def Yq (T:List Int) (o:Option (List Ev)):Option (dg×((bi×(Int×((List Ev)×Unit)))×(d9×Unit))):=
 match o with
 |some ev=>some (((0:Int),()),(([((0:Int),T)],(1,(dB false::(ev++ [dE false]),()))),(((),()),())))
 |none=>some (((8:Int),()),(([((0:Int),T)],(0,([],()))),(((),()),())))
theorem OZ {T:List Int} {x y:Int} {r:List Int} (h:TH T x y r) (out:Option (List Ev)) (ho:PX T out) (n:Nat) (hn:5000<=n):UI n [((0:Int),T)] 0 []=Yq T out:=by
 obtain ⟨m,rfl⟩:∃ m,n=m+1:=⟨n - 1,by omega⟩;unfold UI;refine cT rfl ?_;refine bS (v:=((0:Int),T)) rfl ?_;refine bS (wx h _) ?_;refine cF rfl ?_;cases out with
 |none=>
  refine bS ((Lx T none ho _ (by omega)).trans rfl) ?_;exact cT rfl rfl
 |some ev=>
  obtain ⟨h1,h2,h3⟩:=ho.ne ev rfl;refine bS ((Lx T (some ev) ho _ (by omega)).trans rfl) ?_;refine cF rfl ?_;refine cT (by cases ev with |nil=>exact absurd rfl h1 |cons a b=>rfl) ?_;refine cT (c9 (by simp;omega)) ?_;refine bS (show ll (m+1+4) (len ([]++ev)) 0 ([]++ev)=_ from Ir ev (by omega) h3 ev.length (m+1+4) 0 (Nat.zero_add _) (by omega)) ?_;refine cF rfl ?_;refine cT rfl ?_;refine cT (c9 (by simp;omega)) ?_;refine cT (c9 (by simp;omega)) ?_;rfl
def XE:Option (List Ev)->Option ((List Ev)×dg)
 |some ev=>some (dB false::(ev++ [dE false]),(0:Int),())
 |none=>some ([],(8:Int),())
theorem KK {T:List Int} {x y:Int} {r:List Int} (h:TH T x y r) (out:Option (List Ev)) (ho:PX T out) (n:Nat) (hn:6000<=n):Lu n [((0:Int),T)]=XE out:=by
 obtain ⟨m,rfl⟩:∃ m,n=m+3:=⟨n - 3,by omega⟩;unfold Lu;cases out with
 |none=>
  refine bS (v:= .inr ((),(((),()),(((8:Int),()),(([((0:Int),T)],((0:Int),([],()))),(((),()),(((),((),())),()))))))) ?_ rfl;rw [zR];refine bS (KR h (m+1) []) ?_;refine cF rfl ?_;refine cF rfl ?_;refine cT rfl ?_;refine bS (K3 h _ []) ?_;refine cF rfl ?_;refine bS ((OZ h none ho _ (by omega)).trans rfl) ?_;exact cT rfl rfl
 |some ev=>
  have hlast:zal ((len (dB false::(ev++ [dE false]))) - (1:Int))=((dB false::ev).length:Int):=tc (dB false::ev) (dE false) (by obtain ⟨_,h2,_⟩:=ho.ne ev rfl;simp;omega);have hl:=(ho.ne ev rfl).2.1;refine bS (v:= .inl ((),(((),()),(((0:Int),()),(([((0:Int),T)],((1:Int),(dB false::(ev++ [dE false]),()))),(((),()),(((),((),())),()))))))) ?_ rfl;rw [zR];refine bS (KR h (m+1) []) ?_;refine cF rfl ?_;refine cF rfl ?_;refine cT rfl ?_;refine bS (K3 h _ []) ?_;refine cF rfl ?_;refine bS ((OZ h (some ev) ho _ (by omega)).trans rfl) ?_;refine cF rfl ?_;refine cT (nV (dB false::ev) (dE false) (by simp;omega)) ?_;refine bS (kO (dB false::ev) (dE false) (by simp;omega)) ?_;rw [zR];refine bS (Tj T m _) ?_;refine cF rfl ?_;exact cT rfl rfl
theorem RQ {x y:Int} {r:List Int} (b:List UInt8) (h:TH (b.map ub) x y r) (out:Option (List Ev)) (ho:PX (b.map ub) out) (hb:∀ c∈b,lt7 c) (hx:x≠32) (hf:∀ n,100<=n->form n b=some (1,0,())) (n:Nat) (hn:7000<=n):events n b=XE out:=by
 have hl:b.length<5000:=by have:=h.len;simpa using this
 unfold events;refine bS (Eu _ b hb (by omega) (hf _ (by omega)) (by omega)) ?_;refine cF rfl ?_;have hc:∀ c∈b.map ub,32<=c/\c<=126:=fun c hc=>by
  obtain ⟨z,hz,rfl⟩:=List.mem_map.1 hc;have h1:32<=z.toNat:=(hb z hz).1;have h2:z.toNat<=126:=(hb z hz).2;rw [QM];omega
 have hli:jE (n+6) (b.map ub)=some ([((0:Int),b.map ub)],(0:Int),()):=by
  have e:=h.eq;have hlen:=h.len;generalize b.map ub=T at e hc hlen;subst e;exact HO (n+6) x (y::r) hlen hc hx (by omega)
 refine bS hli ?_;refine cF rfl ?_;cases out with
 |none=>exact bS ((KK h none ho n (by omega)).trans rfl) rfl
 |some ev=>exact bS ((KK h (some ev) ho n (by omega)).trans rfl) rfl
abbrev NI:=Int×g8
def Cd:List UInt8:= [116,97,103,58,121,97,109,108,46,111,114,103,44,50,48,48,50,58,115,116,114]
def fT:List UInt8:= [116,97,103,58,121,97,109,108,46,111,114,103,44,50,48,48,50,58,115,101,113]
theorem JN (k:Nat):valid (k+60) fT=some (true,()):=by kernel_rfl
theorem Mx {n:Nat} (hn:60<=n):valid n fT=some (true,()):=by
 obtain ⟨k,rfl⟩:∃ k,n=k+60:=⟨n - 60,by omega⟩;exact JN k
theorem PC {n:Nat} (hn:60<=n) (l:List Int):node n (2,(fT,([],(l,false))))=some (true,()):=by
 unfold node;have e1:aR 1000 (len fT)=false:=by decide
 have e2:(fT== [33])=false:=by decide
 simp only [e1,zab];rw [show ((fT==([33]:List UInt8))=false) from e2];rw [Mx hn];rfl
theorem HI (g:List NI) (rt l:List Int) (hl:∀ c∈l,0<=c/\c<(g.length:Int)) (hb:l.length<=100000):∀ (k n:Nat) (t:Int),0<=t->t+k=l.length->k<n->
  AH n l (len l) t g rt=some ((),((g,(rt,())),())):=by
 intro k
 induction k with
 |zero=>
  intro n t h0 h1 hn;cases n with
  |zero=>omega
  |succ n=>
   have e1:aR t (len l)=false:=br (by unfold len;omega);simp only [AH,e1,zab]
 |succ k ih=>
  intro n t h0 h1 hn;cases n with
  |zero=>omega
  |succ n=>
   have e1:aR t (len l)=true:=bA (by unfold len;omega);have e2:aQ 0 t=true:=cu h0;have hlt:t.toNat<l.length:=by omega
   have e3:l[t.toNat]? =some l[t.toNat]:=zaj hlt;have hc:=hl _ (List.getElem_mem hlt);generalize l[t.toNat]=c at e3 hc;have e4:aR c 0=false:=br (by omega);have e5:aQ (len g) c=false:=by rw [kl];exact decide_eq_false (by unfold len;omega)
   have w:zal (t+1)=t+1:=bC (by omega) (by omega);simp only [AH,e1,e2,e3,e4,e5,w,zac,zab,zaa];exact ih n (t+1) (by omega) (by omega) (by omega)
theorem Fy {n:Nat} (g:List NI) (rt l:List Int) (hl:∀ c∈l,0<=c/\c<(g.length:Int)) (hb:l.length<=100000) (hn:l.length<=n):WU n (g,rt) l=some (true,()):=by
 unfold WU;rw [HI g rt l hl hb l.length (n+1) 0 (Int.le_refl _) (by omega) (by omega)];rfl
def jY:List NI->Nat
 | []=>0
 |x::r=>x.2.2.2.1.length+jY r
theorem s8 (a b:List NI):jY (a++b)=jY a+jY b:=by
 induction a with
 |nil=>simp [jY]
 |cons x r ih=>simp [jY,ih];omega
theorem J0 (g:List NI) (rt:List Int) (K:Nat) (hg:g.length<=20000) (hK:K<=20000) (hS:jY g<=20000) (hx:∀ (j:Nat) x,g[j]? =some x->(∀ n,200<=n->node n x=some (true,()))/\x.2.2.2.1.length<=K/\∀ c∈x.2.2.2.1,0<=c/\c<(g.length:Int)):∀ (k n:Nat) (t3 t:Nat),t+k=g.length->t3+jY (g.drop t)=jY g->K+k+200<n->
  Ap n (t3:Int) g (len g) (t:Int) g rt=some ((),((g,(rt,())),())):=by
 intro k
 induction k with
 |zero=>
  intro n t3 t h1 h3 hn;cases n with
  |zero=>omega
  |succ n=>
   have e1:aR (t:Int) (len g)=false:=br (by unfold len;omega);simp only [Ap,e1,zab]
 |succ k ih=>
  intro n t3 t h1 h3 hn;cases n with
  |zero=>omega
  |succ n=>
   have e1:aR (t:Int) (len g)=true:=bA (by unfold len;omega);have e2:aQ 0 (t:Int)=true:=cu (by omega);have hlt:t<g.length:=by omega
   have e3:g[Int.toNat (t:Int)]? =some g[t]:=zaj hlt;obtain ⟨x1,x2,x3⟩:=hx t g[t] (zaj hlt);have hdr:g.drop t=g[t]::g.drop (t+1):=List.drop_eq_getElem_cons hlt;rw [hdr] at h3;generalize g[t]=x at e3 x1 x2 x3 h3;have h3':t3+x.2.2.2.1.length+jY (g.drop (t+1))=jY g:=by rw [←h3];simp [jY];omega
   have w1:zal ((t3:Int)+len x.2.2.2.1)=((t3+x.2.2.2.1.length:Nat):Int):=by unfold len;rw [bC]<;>omega
   have w2:zal ((t:Int)+1)=((t+1:Nat):Int):=by rw [bC]<;>omega
   have e4:aR 20000 ((t3+x.2.2.2.1.length:Nat):Int)=false:=br (by omega);have e5:node (n+1) (x.1,(x.2.1,(x.2.2.1,(x.2.2.2.1,x.2.2.2.2))))=some (true,()):=x1 (n+1) (by omega);have e6:=Fy (n:=n+6) g rt x.2.2.2.1 x3 (by omega) (by omega);simp only [Ap,e1,e2,e3,w1,w2,e4,e5,e6,zac,zab,zaa,Bool.not_true];exact ih n _ (t+1) (by omega) h3' (by omega)
theorem JD {n:Nat} (g:List NI) (rt:List Int) (K:Nat) (hg:g.length<=20000) (hK:K<=20000) (hS:jY g<=20000) (hr:∀ c∈rt,0<=c/\c<(g.length:Int)) (hrl:rt.length<=20000) (hx:∀ (j:Nat) x,g[j]? =some x->(∀ n,200<=n->node n x=some (true,()))/\x.2.2.2.1.length<=K/\∀ c∈x.2.2.2.1,0<=c/\c<(g.length:Int)) (hn:K+g.length+rt.length+201<=n):right n (g,rt)=some (true,()):=by
 unfold right;have e1:aR 20000 (len g)=false:=br (by unfold len;omega);have e2:aR 20000 (len rt)=false:=br (by unfold len;omega);simp only [e1,e2,zab];rw [Fy g rt rt hr (by omega) (by omega)];simp only [zaa,Bool.not_true,zab];have:=J0 g rt K hg hK hS hx g.length n 0 0 (by omega) (by simp) (by omega);rw [show ((0:Nat):Int)=0 from rfl] at this;rw [this];rfl
set_option maxRecDepth 100000
abbrev xc:=Int×g8
abbrev TX:=List UInt8
theorem eX {β:Type} (a:TX) (b:β) (r:List (TX×β)) (z:TX):gT .str ((a,b)::r) z=if z=a then some b else gT .str r z:=by
 show (bif (z==a) then some b else gT .str r z)=_
 by_cases h:z=a
 ·rw [if_pos h,beq_iff_eq.2 h];rfl
 ·rw [if_neg h,beq_eq_false_iff_ne.2 h];rfl
theorem wJ {β:Type} (a:TX) (b:β) (r:List (TX×β)) (x:TX) (y:β):iV .str ((a,b)::r) x y=if x=a then (x,y)::r else (a,b)::iV .str r x y:=by
 show (bif (x==a) then (x,y)::r else (a,b)::iV .str r x y)=_
 by_cases h:x=a
 ·rw [if_pos h,beq_iff_eq.2 h];rfl
 ·rw [if_neg h,beq_eq_false_iff_ne.2 h];rfl
theorem xV {β:Type} (x:TX) (y:β) (z:TX):∀ l:List (TX×β),gT .str (iV .str l x y) z=if z=x then some y else gT .str l z:=by
 intro l
 induction l with
 |nil=>exact eX x y [] z
 |cons p r ih=>
  obtain ⟨a,b⟩:=p;rw [wJ];by_cases h:x=a
  ·subst h
   rw [if_pos rfl,eX,eX];by_cases h2:z=x
   ·rw [if_pos h2,if_pos h2]
   ·rw [if_neg h2,if_neg h2,if_neg h2]
  ·rw [if_neg h,eX,eX,ih]
   by_cases h2:z=a
   ·rw [if_pos h2,if_pos h2,if_neg (fun h3=>h (h3.symm.trans h2))]
   ·rw [if_neg h2,if_neg h2]
theorem Ix {β:Type} (x:TX) (y:β):∀ l:List (TX×β),gT .str l x=none->(iV .str l x y).length=l.length+1/\∀ p∈iV .str l x y,p=(x,y)∨p∈l:=by
 intro l
 induction l with
 |nil=>intro _;exact ⟨rfl,fun p hp=>by cases hp with |head=>exact .inl rfl |tail _ h=>cases h⟩
 |cons p r ih=>
  obtain ⟨a,b⟩:=p;intro h;rw [eX] at h;split at h
  ·cases h
  ·rename_i h2
   obtain ⟨h3,h4⟩:=ih h;rw [wJ,if_neg h2];refine ⟨by simp [h3],fun p hp=>?_⟩;rcases List.mem_cons.1 hp with rfl |hp
   ·exact .inr (List.mem_cons_self ..)
   ·rcases h4 p hp with h5 |h5
    ·exact .inl h5
    ·exact .inr (zak _ h5)
theorem M6 {β:Type} {x:TX} {y:β}:∀ {l:List (TX×β)},gT .str l x=some y->(x,y)∈l:=by
 intro l
 induction l with
 |nil=>intro h;cases h
 |cons p r ih=>
  obtain ⟨a,b⟩:=p;intro h;rw [eX] at h;split at h
  ·rename_i h2;cases h;subst h2;exact List.mem_cons_self ..
  ·exact zak _ (ih h)
def Sm (t:List Int):Prop:=∀ y∈t,0<=y/\y<=1000
theorem Sm.set {t:List Int} (h:Sm t) {i:Nat} {y:Int} (h1:0<=y) (h2:y<=1000):Sm (t.set i y):=fun z hz=>by
 rcases List.mem_or_eq_of_mem_set hz with hz |rfl
 ·exact h z hz
 ·exact ⟨h1,h2⟩
theorem OX (tx:List TX) (c0:List xc) (c1:List Int) (t39:Int) (hN:tx.length<=1000):∀ (k n i:Nat) (t3:List Int) (m:List (TX×Int)),i+k=tx.length->k<n->t3.length=tx.length->Sm t3->
  (∀ (j:Nat) x,j<i->tx[j]? =some x->∃ y,gT .str m x=some y/\t3[j]? =some y)->m.length<=i->(∀ p∈m,0<=p.2/\p.2<=1000)->
  ∃ t3' m',kD n t3 t39 (len tx) (i:Int) c0 c1 tx m=some (((),(t3',((),(t39,())))),((c0,(c1,())),(tx,(m',()))))/\t3'.length=tx.length/\Sm t3'/\
   ∀ (j:Nat) x,tx[j]? =some x->∃ y,gT .str m' x=some y/\t3'[j]? =some y:=by
 intro k
 induction k with
 |zero=>
  intro n i t3 m hi hn hl hs hm _ _;obtain ⟨n,rfl⟩:∃ q,n=q+1:=⟨n - 1,by omega⟩;refine ⟨t3,m,?_,hl,hs,fun j x hx=>hm j x ?_ hx⟩
  ·show (bif aR (i:Int) (len tx) then _ else _)=_
   rw [br (by unfold len;omega)];rfl
  ·have:=(List.getElem?_eq_some_iff.1 hx).1;omega
 |succ k ih=>
  intro n i t3 m hi hn hl hs hm hml hmv;obtain ⟨n,rfl⟩:∃ q,n=q+1:=⟨n - 1,by omega⟩;have hil:i<tx.length:=by omega
  have hx:tx[i]? =some tx[i]:=zaj hil;have ht : t3[i]? = some (t3[i]'(by omega)) := zaj (by omega);have w1:zal ((i:Int)+1)=((i+1:Nat):Int):=by rw [bC (by omega) (by omega)];omega
  have e0:aQ (0:Int) (i:Int)=true:=cu (by omega);have e4:aR (i:Int) (len t3)=true:=bA (by unfold len;omega);have e3:aR (i:Int) (len tx)=true:=bA (by unfold len;omega)
  have stepB:∀ (m2:List (TX×Int)) (y:Int),gT .str m2 tx[i]=some y->0<=y->y<=1000->(∀ (j:Nat) x,j<i->tx[j]? =some x->∃ y,gT .str m2 x=some y/\t3[j]? =some y)->m2.length<=i+1->(∀ p∈m2,0<=p.2/\p.2<=1000)->
    ∃ t3' m',kD n (t3.set i y) t39 (len tx) ((i+1:Nat):Int) c0 c1 tx m2=some (((),(t3',((),(t39,())))),((c0,(c1,())),(tx,(m',()))))/\t3'.length=tx.length/\Sm t3'/\
     ∀ (j:Nat) x,tx[j]? =some x->∃ y,gT .str m' x=some y/\t3'[j]? =some y:=by
   intro m2 y q1 q2 q3 q4 q5 q6;refine ih n (i+1) (t3.set i y) m2 (by omega) (by omega) (by rw [List.length_set];exact hl) (hs.set q2 q3) (fun j x hj hx2=>?_) q5 q6;rcases Nat.lt_or_ge j i with hji |hji
   ·obtain ⟨z,h1,h2⟩:=q4 j x hji hx2
    exact ⟨z,h1,by rw [List.getElem?_set_ne (by omega)];exact h2⟩
   ·obtain rfl:j=i:=by omega
    rw [hx] at hx2;cases hx2;exact ⟨y,q1,by rw [List.getElem?_set_self (by omega)]⟩
  cases hg:gT .str m tx[i] with
  |none=>
   obtain ⟨r1,r2⟩:=Ix tx[i] (len m) m hg;have hg2:gT .str (iV .str m tx[i] (len m)) tx[i]=some (len m):=by rw [xV,if_pos rfl]
   have hb:len m<=1000:=by unfold len;omega
   obtain ⟨t3',m',h1,h2⟩:=stepB (iV .str m tx[i] (len m)) (len m) hg2 (by unfold len;omega) hb (fun j x hj hx2=>by
    obtain ⟨z,h1,h2⟩:=hm j x hj hx2;refine ⟨z,?_,h2⟩;rw [xV];by_cases hq:x=tx[i]
    ·rw [hq,hg] at h1;cases h1
    ·rw [if_neg hq];exact h1) (by omega) (fun p hp=>by
    rcases r2 p hp with rfl |hp
    ·exact ⟨by simp only [len];omega,hb⟩
    ·exact hmv p hp)
   refine ⟨t3',m',?_,h2⟩;rw [←h1]
   conv=>lhs;unfold kD
   have a1:E8 .str m tx[i]=false:=by unfold E8;rw [hg];rfl
   have a2:nz .str (iV .str m tx[i] (len m)) tx[i] (0:Int)=len m:=by unfold nz;rw [hg2];rfl
   simp only [e0,e3,e4,Bool.and_true,zac,Int.toNat_natCast,hx,zaa,a1,Bool.not_false,ht,w1,a2]
  |some y=>
   have hy:=hmv _ (M6 hg);obtain ⟨t3',m',h1,h2⟩:=stepB m y hg hy.1 hy.2 hm (by omega) hmv;refine ⟨t3',m',?_,h2⟩;rw [←h1]
   conv=>lhs;unfold kD
   have a1:E8 .str m tx[i]=true:=by unfold E8;rw [hg];rfl
   have a2:nz .str m tx[i] (0:Int)=y:=by unfold nz;rw [hg];rfl
   simp only [e0,e3,e4,Bool.and_true,zac,Int.toNat_natCast,hx,zaa,a1,Bool.not_true,zab,ht,w1,a2]
theorem iu (y:Int) (h1:0<=y) (h2:y<=1000):(Go.Lib.itoa y).length<=21:=Go.Lib.itoa_length_le y (by omega) (by omega)
theorem Pc (y:Int):(Go.Lib.itoa y).length≠0:=by
 have h:∀ u,(Go.Lib.decDigits u).length≠0:=fun u=>by
  rw [Go.Lib.decDigits];split<;>simp
 unfold Go.Lib.itoa;split
 ·simp
 ·exact h _
def ld (t3:List Int) (c:Int):Int:=(t3[c.toNat]?).getD 0
theorem uT {t3:List Int} (h:Sm t3) (c:Int):0<=ld t3 c/\ld t3 c<=1000:=by
 unfold ld;cases hq:t3[c.toNat]? with
 |none=>exact ⟨by simp,by simp⟩
 |some y=>exact h y (List.mem_of_getElem? hq)
def kW (t3:List Int) (l:List Int):TX:=l.flatMap fun c=>32::Go.Lib.itoa (ld t3 c)
def Hv (t3:List Int) (j:Int) (l:List Int):TX:=Go.Lib.itoa (ld t3 j)++kW t3 l
theorem Mm {t3:List Int} (h:Sm t3):∀ l:List Int,(kW t3 l).length<=22*l.length:=by
 intro l
 induction l with
 |nil=>exact zai _
 |cons a l ih=>
  have e:kW t3 (a::l)=(32::Go.Lib.itoa (ld t3 a))++kW t3 l:=rfl;have:=iu _ (uT h a).1 (uT h a).2;rw [e,zaf,zad,zad];omega
theorem uR {y:Int} (h1:0<=y) (h2:y<=1000):CR y=true:=by unfold CR;rw [cu (by omega),cu (by omega)];rfl
theorem Ou (t3:List Int) (t4:List TX) (t12 t39 t70 t71:Int) (t69 c0:List xc) (c1 l:List Int) (hs:Sm t3) (hl:l.length<=100000) (hk:∀ c∈l,0<=c/\c<(t3.length:Int)):
  ∀ (k n i:Nat) (s:TX),i+k=l.length->k<n->s.length+22*k<=3000000->
   rb n t3 t4 t12 t39 t69 t70 t71 l (len l) (i:Int) c0 c1 s=some (((),(t3,(t4,(t12,((),(t39,(t69,(t70,(t71,()))))))))),((c0,(c1,())),(((),(s++kW t3 (l.drop i),())),()))):=by
 intro k
 induction k with
 |zero=>
  intro n i s hi hn _;obtain ⟨n,rfl⟩:∃ q,n=q+1:=⟨n - 1,by omega⟩
  conv=>lhs;unfold rb
  rw [br (by unfold len;omega),zab,List.drop_eq_nil_of_le (by omega)]
  show _=some (((),(t3,(t4,(t12,((),(t39,(t69,(t70,(t71,()))))))))),((c0,(c1,())),(((),(s++ [],())),())))
  rw [List.append_nil]
 |succ k ih=>
  intro n i s hi hn hb;obtain ⟨n,rfl⟩:∃ q,n=q+1:=⟨n - 1,by omega⟩;have hil:i<l.length:=by omega
  have hx:l[i]? =some l[i]:=zaj hil;obtain ⟨k1,k2⟩:=hk l[i] (List.getElem_mem hil);have ht : t3[(l[i]).toNat]? = some (t3[(l[i]).toNat]'(by omega)) := zaj (by omega);have hc : ld t3 l[i] = t3[(l[i]).toNat]'(by omega) := by unfold ld; rw [ht]; rfl
  have hq:=uT hs l[i];rw [hc] at hq;have hlen:=iu _ hq.1 hq.2;have w1:zal ((i:Int)+1)=((i+1:Nat):Int):=by rw [bC (by omega) (by omega)];omega
  have e0:aQ (0:Int) (i:Int)=true:=cu (by omega);have e1:aR (i:Int) (len l)=true:=bA (by unfold len;omega);have e2:aQ (0:Int) l[i]=true:=cu k1;have e3:aR l[i] (len t3)=true:=bA k2;have r1:room ((s.length+(List.length ((32:UInt8)::([]:List UInt8))))*2)=true:=uU (by simp only [zad,List.length_nil];unfold roomy;omega);have r2 : room (((s ++ ((32 : UInt8) :: ([] : List UInt8))).length + (Go.Lib.itoa (t3[(l[i]).toNat]'(by omega))).length) * 2) = true := uU (by simp only [zaf, List.length_cons, List.length_nil]; unfold roomy; omega)
  conv=>lhs;unfold rb
  simp only [e1,zac,e0,Int.toNat_natCast,hx,zaa,r1,e2,e3,Bool.and_true,ht,uR hq.1 hq.2,r2,w1];rw [ih n (i+1) _ (by omega) (by omega) (by simp only [zaf,zad,List.length_nil];omega)];have : kW t3 (l.drop i) = (32 :: Go.Lib.itoa (t3[(l[i]).toNat]'(by omega))) ++ kW t3 (l.drop (i + 1)) := by
   rw [List.drop_eq_getElem_cons hil,←hc];rfl
  rw [this];simp
theorem O0 (g1:List xc) (t3:List Int) (t39:Int) (c1:List Int) (hN:g1.length<=1000) (hs:Sm t3) (h3:t3.length=g1.length) (hk:∀ x∈g1,x.2.2.2.1.length<=100000/\∀ c∈x.2.2.2.1,0<=c/\c<(g1.length:Int)):
  ∀ (k n i:Nat) (t4:List TX),i+k=g1.length->k+100010<n->t4.length=g1.length->(∀ (j:Nat) x,j<i->g1[j]? =some x->t4[j]? =some (Hv t3 (j:Int) x.2.2.2.1))->
   ∃ t4',lZ n t3 t4 t39 g1 (len g1) (i:Int) g1 c1=some (((),(t3,(t4',(t39,())))),((g1,(c1,())),()))/\t4'.length=g1.length/\∀ (j:Nat) x,g1[j]? =some x->t4'[j]? =some (Hv t3 (j:Int) x.2.2.2.1):=by
 intro k
 induction k with
 |zero=>
  intro n i t4 hi hn hl hd;obtain ⟨n,rfl⟩:∃ q,n=q+1:=⟨n - 1,by omega⟩;refine ⟨t4,?_,hl,fun j x hx=>hd j x (by have:=(List.getElem?_eq_some_iff.1 hx).1;omega) hx⟩
  conv=>lhs;unfold lZ
  rw [br (by unfold len;omega),zab]
 |succ k ih=>
  intro n i t4 hi hn hl hd;obtain ⟨n,rfl⟩:∃ q,n=q+1:=⟨n - 1,by omega⟩;have hil:i<g1.length:=by omega
  have hx:g1[i]? =some g1[i]:=zaj hil;have ht : t3[i]? = some (t3[i]'(by omega)) := zaj (by omega);have h4 : t4[i]? = some (t4[i]'(by omega)) := zaj (by omega);obtain ⟨k1,k2⟩:=hk _ (List.getElem_mem hil);have hc : ld t3 (i : Int) = t3[i]'(by omega) := by unfold ld; rw [Int.toNat_natCast, ht]; rfl
  have hq:=uT hs (i:Int);rw [hc] at hq;have hlen:=iu _ hq.1 hq.2;have htl:=Mm hs g1[i].2.2.2.1;have w1:zal ((i:Int)+1)=((i+1:Nat):Int):=by rw [bC (by omega) (by omega)];omega
  have e0:aQ (0:Int) (i:Int)=true:=cu (by omega);have e1:aR (i:Int) (len g1)=true:=bA (by unfold len;omega);have e3:aR (i:Int) (len t3)=true:=bA (by unfold len;omega);have e4:aR (i:Int) (len t4)=true:=bA (by unfold len;omega);have r1 : room ((Go.Lib.itoa (t3[i]'(by omega))).length * 2) = true := uU (by unfold roomy; omega);have hloop := Ou t3 t4 (i : Int) t39 (len g1) (i : Int) g1 g1 c1 g1[i].2.2.2.1 hs k1 (fun c hc => by rw [h3]; exact k2 c hc) g1[i].2.2.2.1.length (n + 1) 0 (Go.Lib.itoa (t3[i]'(by omega))) (by omega) (by omega) (by omega);rw [List.drop_zero] at hloop;have hlb : Go.Lib.itoa (t3[i]'(by omega)) ++ kW t3 g1[i].2.2.2.1 = Hv t3 (i : Int) g1[i].2.2.2.1 := by unfold Hv; rw [hc]
  rw [hlb] at hloop;have hll:(Hv t3 (i:Int) g1[i].2.2.2.1).length<=3000000:=by unfold Hv;rw [hc,zaf];omega
  have hne:(Hv t3 (i:Int) g1[i].2.2.2.1).isEmpty=false:=by
   have := Pc (t3[i]'(by omega));unfold Hv;rw [hc];cases hq2 : Go.Lib.itoa (t3[i]'(by omega)) with
   |nil=>rw [hq2] at this;exact absurd rfl this
   |cons a r=>rfl
  have e5:aQ (len (Hv t3 (i:Int) g1[i].2.2.2.1)) (len (Hv t3 (i:Int) g1[i].2.2.2.1))=true:=cu (Int.le_refl _);have e6:aQ (len (Hv t3 (i:Int) g1[i].2.2.2.1)) (1099511627776:Int)=true:=cu (by unfold len;omega);have e7:List.take (Int.toNat (len (Hv t3 (i:Int) g1[i].2.2.2.1))) (Hv t3 (i:Int) g1[i].2.2.2.1)=Hv t3 (i:Int) g1[i].2.2.2.1:=by unfold len;rw [Int.toNat_natCast,List.take_length]
  obtain ⟨t4',q1,q2,q3⟩:=ih n (i+1) (t4.set i (Hv t3 (i:Int) g1[i].2.2.2.1)) (by omega) (by omega) (by rw [List.length_set];exact hl) (fun j x hj hxx=>by
   rcases Nat.lt_or_ge j i with hji |hji
   ·rw [List.getElem?_set_ne (by omega)];exact hd j x hji hxx
   ·obtain rfl:j=i:=by omega
    rw [hx] at hxx;cases hxx;rw [List.getElem?_set_self (by omega)])
  refine ⟨t4',?_,q2,q3⟩;rw [←q1]
  conv=>lhs;unfold lZ
  simp only [e1,zac,e0,Int.toNat_natCast,hx,zaa,e3,Bool.and_true,ht,uR hq.1 hq.2,r1];rw [show ((0:Int))=((0:Nat):Int) from rfl,hloop];simp only [zaa,hne,zab,e5,e6,Bool.and_true,zac,e0,e4,Int.toNat_natCast,h4,e7,w1];rfl
def VW {α:Type} (R:Nat->Nat->Prop) (t:List α):Prop:=∀ i j,R i j->t[i]? =t[j]?
structure Xq (g1:List xc) (ow:xc->TX) (R:Nat->Nat->Prop):Prop where
 ix:∀ i j,R i j->i<g1.length/\j<g1.length
 ow:∀ i j x y,R i j->g1[i]? =some x->g1[j]? =some y->ow x=ow y/\x.2.2.2.1.length=y.2.2.2.1.length/\∀ q∈x.2.2.2.1.zip y.2.2.2.1,R q.1.toNat q.2.toNat
theorem P3 {t3:List Int}:∀ {l k:List Int},l.length=k.length->(∀ q∈l.zip k,t3[q.1.toNat]? =t3[q.2.toNat]?)->kW t3 l=kW t3 k:=by
 intro l
 induction l with
 |nil=>intro k hl _;cases k with |nil=>rfl |cons _ _=>cases hl
 |cons a l ih=>
  intro k hl h;cases k with
  |nil=>cases hl
  |cons b k=>
   have h1:ld t3 a=ld t3 b:=by unfold ld;rw [h (a,b) (by simp)]
   have h2:=ih (k:=k) (by simpa using hl) (fun q hq=>h q (by rw [List.zip_cons_cons];exact zak _ hq))
   show (32::Go.Lib.itoa (ld t3 a))++kW t3 l=(32::Go.Lib.itoa (ld t3 b))++kW t3 k
   rw [h1,h2]
theorem TP (g1:List xc) (c1:List Int) (ow:xc->TX) (R:Nat->Nat->Prop) (hR:Xq g1 ow R) (hN:g1.length<=1000) (hk:∀ x∈g1,x.2.2.2.1.length<=100000/\∀ c∈x.2.2.2.1,0<=c/\c<(g1.length:Int)):
  ∀ (r n i:Nat) (t3:List Int) (t4:List TX),i+r=4->r+102000<n->t3.length=g1.length->Sm t3->t4.length=g1.length->(r=0->VW R t3)->VW R t4->
   ∃ t3',xN n t3 t4 (i:Int) g1 c1=some ((t3',()),((g1,(c1,())),()))/\t3'.length=g1.length/\VW R t3':=by
 intro r
 induction r with
 |zero=>
  intro n i t3 t4 hi hn h3 _ _ h0 _;obtain ⟨n,rfl⟩:∃ q,n=q+1:=⟨n - 1,by omega⟩;refine ⟨t3,?_,h3,h0 rfl⟩
  conv=>lhs;unfold xN
  rw [br (by omega),zab]
 |succ r ih=>
  intro n i t3 t4 hi hn h3 hs h4 _ hw;obtain ⟨n,rfl⟩:∃ q,n=q+1:=⟨n - 1,by omega⟩;obtain ⟨t3',m',a1,a2,a3,a4⟩:=OX t4 g1 c1 (i:Int) (by omega) t4.length (n+3) 0 t3 [] (by omega) (by omega) (by omega) hs (fun j x hj=>absurd hj (by omega)) (zai _) (fun p hp=>by cases hp);have w3:VW R t3':=by
   intro j k hjk;obtain ⟨x1,x2⟩:=hR.ix j k hjk;have e1 : t4[j]? = some (t4[j]'(by omega)) := zaj (by omega);obtain ⟨y,y1,y2⟩:=a4 j _ e1;obtain ⟨z,z1,z2⟩:=a4 k _ ((hw j k hjk).symm.trans e1);rw [y1] at z1;cases z1;rw [y2,z2]
  obtain ⟨t4',b1,b2,b3⟩:=O0 g1 t3' (i:Int) c1 hN a3 (by omega) hk g1.length (n+1) 0 t4 (by omega) (by omega) h4 (fun j x hj=>absurd hj (by omega));have w4:VW R t4':=by
   intro j k hjk;obtain ⟨x1,x2⟩:=hR.ix j k hjk;have e1 : g1[j]? = some (g1[j]'x1) := zaj x1;have e2 : g1[k]? = some (g1[k]'x2) := zaj x2;obtain ⟨o1,o2,o3⟩:=hR.ow j k _ _ hjk e1 e2;rw [b3 j _ e1,b3 k _ e2];have c1:ld t3' (j:Int)=ld t3' (k:Int):=by unfold ld;rw [Int.toNat_natCast,Int.toNat_natCast,w3 j k hjk]
   unfold Hv;rw [c1,P3 o2 (fun q hq=>w3 _ _ (o3 q hq))]
  have w1:zal ((i:Int)+1)=((i+1:Nat):Int):=by rw [bC (by omega) (by omega)];omega
  obtain ⟨t3'',q1,q2,q3⟩:=ih n (i+1) t3' t4' (by omega) (by omega) (by omega) a3 b2 (fun _=>w3) w4;refine ⟨t3'',?_,q2,q3⟩;rw [←q1]
  conv=>lhs;unfold xN
  have e:aR (i:Int) (4:Int)=true:=bA (by omega);have a1':kD (n+3) t3 (i:Int) (len t4) 0 g1 c1 t4 []=_:=a1;have b1':lZ (n+1) t3' t4 (i:Int) g1 (len g1) 0 g1 c1=_:=b1;simp only [e,zac,a1',zaa,b1',w1]
theorem UG (g1:List xc) (c1:List Int) (t3:List Int) (ow:xc->TX) (hN:g1.length<=1000) (ho:∀ x∈g1,∀ n,60000<=n->own n x=some (ow x,())):
  ∀ (k n i:Nat) (t4:List TX),i+k=g1.length->k+60000<n->t4.length=g1.length->(∀ (j:Nat) x,j<i->g1[j]? =some x->t4[j]? =some (ow x))->
   ∃ t4',wW n t3 t4 g1 (len g1) (i:Int) g1 c1=some (((),(t3,(t4',()))),((g1,(c1,())),()))/\t4'.length=g1.length/\∀ (j:Nat) x,g1[j]? =some x->t4'[j]? =some (ow x):=by
 intro k
 induction k with
 |zero=>
  intro n i t4 hi hn hl hd;obtain ⟨n,rfl⟩:∃ q,n=q+1:=⟨n - 1,by omega⟩;refine ⟨t4,?_,hl,fun j x hx=>hd j x (by have:=(List.getElem?_eq_some_iff.1 hx).1;omega) hx⟩
  conv=>lhs;unfold wW
  rw [br (by unfold len;omega),zab]
 |succ k ih=>
  intro n i t4 hi hn hl hd;obtain ⟨n,rfl⟩:∃ q,n=q+1:=⟨n - 1,by omega⟩;have hil:i<g1.length:=by omega
  have hx:g1[i]? =some g1[i]:=zaj hil;have h4 : t4[i]? = some (t4[i]'(by omega)) := zaj (by omega);have w1:zal ((i:Int)+1)=((i+1:Nat):Int):=by rw [bC (by omega) (by omega)];omega
  have e0:aQ (0:Int) (i:Int)=true:=cu (by omega);have e1:aR (i:Int) (len g1)=true:=bA (by unfold len;omega);have e4:aR (i:Int) (len t4)=true:=bA (by unfold len;omega);obtain ⟨t4',q1,q2,q3⟩:=ih n (i+1) (t4.set i (ow g1[i])) (by omega) (by omega) (by rw [List.length_set];exact hl) (fun j x hj hxx=>by
   rcases Nat.lt_or_ge j i with hji |hji
   ·rw [List.getElem?_set_ne (by omega)];exact hd j x hji hxx
   ·obtain rfl:j=i:=by omega
    rw [hx] at hxx;cases hxx;rw [List.getElem?_set_self (by omega)])
  refine ⟨t4',?_,q2,q3⟩;rw [←q1]
  conv=>lhs;unfold wW
  simp only [e1,zac,e0,Int.toNat_natCast,hx,zaa,ho _ (List.getElem_mem hil) (n+1) (by omega),e4,Bool.and_true,h4,w1]
theorem Dw (n:Nat) (hn:103000<=n) (g1:List xc) (c1:List Int) (ow:xc->TX) (R:Nat->Nat->Prop) (hR:Xq g1 ow R) (hN:g1.length<=1000) (ho:∀ x∈g1,∀ n,60000<=n->own n x=some (ow x,()))
  (hk:∀ x∈g1,x.2.2.2.1.length<=100000/\∀ c∈x.2.2.2.1,0<=c/\c<(g1.length:Int)):∃ c,CS n (g1,c1)=some (c,())/\c.length=g1.length/\VW R c:=by
 have e1:aQ (len g1) (len g1)=true:=cu (Int.le_refl _);have e2:aQ ((len g1)*(9:Int)) (1099511627776:Int)=true:=cu (by unfold len;omega);have e3:aQ ((len g1)*(17:Int)) (1099511627776:Int)=true:=cu (by unfold len;omega);have e4:Int.toNat (len g1)=g1.length:=by unfold len;exact Int.toNat_natCast _
 obtain ⟨t4,a1,a2,a3⟩:=UG g1 c1 (List.replicate g1.length 0) ow hN ho g1.length n 0 (List.replicate g1.length []) (by omega) (by omega) (by simp) (fun j x hj=>absurd hj (by omega));have w4:VW R t4:=by
  intro j k hjk;obtain ⟨x1,x2⟩:=hR.ix j k hjk;have e1 : g1[j]? = some (g1[j]'x1) := zaj x1;have e2 : g1[k]? = some (g1[k]'x2) := zaj x2;rw [a3 j _ e1,a3 k _ e2,(hR.ow j k _ _ hjk e1 e2).1]
 obtain ⟨c,b1,b2,b3⟩:=TP g1 c1 ow R hR hN hk 4 (n+1) 0 (List.replicate g1.length 0) t4 rfl (by omega) (by simp) (fun y hy=>by rw [(List.mem_replicate.1 hy).2];omega) a2 (fun h=>by cases h) w4;refine ⟨c,?_,b2,b3⟩;unfold CS;have a1':wW n (List.replicate g1.length 0) (List.replicate g1.length []) g1 (len g1) 0 g1 c1=_:=a1;have b1':xN (n+1) (List.replicate g1.length 0) t4 0 g1 c1=_:=b1;simp only [e1,e2,e3,Bool.and_true,zac,e4,a1',zaa,b1']
set_option maxRecDepth 10000
def Cu:List UInt8:= [116,97,103,58,121,97,109,108,46,111,114,103,44,50,48,48,50,58,110,117,108,108]
def uA (p:List UInt8):List UInt8:=if p= [] then Cu else Cd
def Uf (p:List UInt8):Prop:=p= []∨p= [97]
def rs (p:List UInt8) (x:rj):rj:=(x.1,((bif x.1==2 then fT else uA p),x.2.2))
theorem WW (n:Nat) (l:List Int) (h:100<=n):iL n (lP l).1 (lP l).2.1 (lP l).2.2.1 (lP l).2.2.2.2 2=some (fT,()):=by
 obtain ⟨m,rfl⟩:∃ m,n=m+100:=⟨n - 100,by omega⟩;rfl
theorem XP (m:Nat):iL (m+300) 1 [] [97] true 2=some (Cd,()):=by kernel_rfl
theorem WS (m:Nat):iL (m+300) 1 [] [] true 2=some (Cu,()):=by kernel_rfl
theorem Xd (n:Nat) (p:List UInt8) (hp:Uf p) (h:300<=n):iL n (yM p).1 (yM p).2.1 (yM p).2.2.1 (yM p).2.2.2.2 2=some (uA p,()):=by
 obtain ⟨m,rfl⟩:∃ m,n=m+300:=⟨n - 300,by omega⟩;rcases hp with rfl |rfl
 ·exact WS m
 ·exact XP m
theorem HY (t1:Int) (c1:List Int) (g:List rj) (R:rj->List UInt8) (hg:g.length<10000) (hR:∀ x∈g,∀ n,300<=n->iL n x.1 x.2.1 x.2.2.1 x.2.2.2.2 t1=some (R x,())):∀ (b a:List rj) (n:Nat),(∀ x∈b,x∈g)->a.length+b.length=g.length->b.length+301<=n->
  z6 n t1 (len g) (a.length:Int) c1 (a++b)=some (((),((),())),(((),(c1,())),(((),((),())),(a++b.map fun x=>(x.1,(R x,x.2.2)),())))):=by
 intro b
 induction b with
 |nil=>
  intro a n _ h hn;obtain ⟨m,rfl⟩:∃ m,n=m+1:=⟨n - 1,by omega⟩;simp at h;rw [z6];exact cF (SR g a.length (by omega)) rfl
 |cons x b ih=>
  intro a n hb h hn;obtain ⟨m,rfl⟩:∃ m,n=m+1:=⟨n - 1,by omega⟩;simp at h hn;have hlt:a.length<(a++x::b).length:=by simp
  have e1:((aQ (0:Int) (a.length:Int)) &&(aR (a.length:Int) (len (a++x::b))))=true:=by rw [nn,dp _ _ hlt];rfl
  have e2:(a++x::b)[Int.toNat (a.length:Int)]? =some x:=by simp
  rw [z6];refine cT (dp g a.length (by omega)) ?_;refine cT e1 ?_;refine bS e2 ?_;refine bS (hR x (hb x (List.mem_cons_self ..)) _ (by omega)) ?_;refine cT e1 ?_;refine bS e2 ?_;have e3:List.set (a++x::b) (Int.toNat (a.length:Int)) (x.1,(R x,(x.2.2.1,(x.2.2.2.1,x.2.2.2.2))))=(a++ [(x.1,(R x,x.2.2))])++b:=by simp
  rw [e3,Ci a.length (by omega)];have:=ih (a++ [(x.1,(R x,x.2.2))]) m (fun y hy=>hb y (zak _ hy)) (by simp;omega) (by omega);rw [show (a++ [(x.1,(R x,x.2.2))]).length=a.length+1 by simp] at this;rw [this];simp
theorem PU (k m:Nat) (p:List UInt8) (x:rj) (hx:x∈tr k m p):(∃ l,x=lP l/\l.length<=m+1/\∀ c∈l,0<=c/\c<((k+1+m:Nat):Int))∨x=yM p:=by
 simp only [tr,pre,List.mem_append,List.mem_map,List.mem_range,List.mem_cons,List.mem_replicate] at hx;rcases hx with ⟨q,hq,rfl⟩ |rfl |⟨_,rfl⟩
 ·exact .inl ⟨_,rfl,by simp,fun c hc=>by simp at hc;omega⟩
 ·refine .inl ⟨_,rfl,by rw [xT];omega,fun c hc=>?_⟩
  simp only [eZ,List.mem_map,List.mem_range] at hc;obtain ⟨t,ht,rfl⟩:=hc;omega
 ·exact .inr rfl
def Dq (k m:Nat) (p:List UInt8):List rj:=(tr k m p).map fun x=>(x.1,((bif x.1==2 then fT else uA p),x.2.2))
theorem zm (k m:Nat) (p:List UInt8) (hp:Uf p) (hk:k<300) (hm:m<300) (n:Nat) (hn:2000<=n):resolved n (tr k m p,[0]) 2=some ((Dq k m p,[0]),()):=by
 have hl:=kN k m p;have:=HY 2 [0] (tr k m p) (fun x=>bif x.1==2 then fT else uA p) (by omega) (fun x hx n hn=>by
  rcases PU k m p x hx with ⟨l,rfl,_,_⟩ |rfl
  ·exact WW n l (by omega)
  ·exact Xd n p hp hn) (tr k m p) [] n (fun x hx=>hx) (by simp) (by omega)
 unfold resolved;refine cT (by show (!(List.isEmpty (tr k m p)))=true;rw [show List.isEmpty (tr k m p)=false from by cases h:tr k m p with |nil=>(rw [h] at hl;simp at hl;omega) |cons a b=>rfl];rfl) ?_;refine cT (c9 (by simp;omega)) ?_;refine bS this ?_;rfl
theorem uV (k m:Nat) (p:List UInt8):(Dq k m p).length=k+1+m:=by simp [Dq,kN]
theorem oU (k m:Nat) (p:List UInt8) (x:rj) (hx:x∈Dq k m p):(∃ l,x=(2,(fT,([],(l,false))))/\l.length<=m+1/\∀ c∈l,0<=c/\c<((k+1+m:Nat):Int))∨x=(1,(uA p,(p,([],true)))):=by
 unfold Dq at hx;rw [List.mem_map] at hx;obtain ⟨y,hy,rfl⟩:=hx;rcases PU k m p y hy with ⟨l,rfl,h1,h2⟩ |rfl
 ·exact .inl ⟨l,rfl,h1,h2⟩
 ·exact .inr rfl
theorem VJ (m:Nat):node (m+150) (1,(Cd,([97],([],true))))=some (true,()):=by kernel_rfl
theorem V8 (m:Nat):node (m+150) (1,(Cu,([],([],true))))=some (true,()):=by kernel_rfl
theorem Vz (n:Nat) (p:List UInt8) (hp:Uf p) (h:200<=n):node n (1,(uA p,(p,([],true))))=some (true,()):=by
 obtain ⟨m,rfl⟩:∃ m,n=m+150:=⟨n - 150,by omega⟩;rcases hp with rfl |rfl
 ·exact V8 m
 ·exact VJ m
theorem Ss (f:rj->rj) (h:∀ x,(f x).2.2.2.1=x.2.2.2.1) (l:List rj):jY (l.map f)=jY l:=by
 induction l with
 |nil=>rfl
 |cons x r ih=>simp [jY,ih,h]
theorem QV (m:Nat) (p:List UInt8):jY (List.replicate m (yM p))=0:=by
 induction m with
 |zero=>rfl
 |succ m ih=>rw [List.replicate_succ];exact (Nat.zero_add _).trans ih
theorem OV (k:Nat):jY (pre k)=k:=by
 induction k with
 |zero=>rfl
 |succ k ih=>rw [Eb,s8,ih];rfl
theorem Tf (k m:Nat) (p:List UInt8):jY (Dq k m p)=k+m:=by
 unfold Dq;rw [Ss (fun x=>(x.1,((bif x.1==2 then fT else uA p),x.2.2))) (fun x=>rfl)];unfold tr;rw [s8,OV]
 show k+((eZ (k+1) m).length+jY (List.replicate m (yM p)))=k+m
 rw [xT,QV];rfl
theorem Fk (k m:Nat) (p:List UInt8) (hp:Uf p) (hk:k<300) (hm:m<300) (n:Nat) (hn:2000<=n):right n (Dq k m p,[0])=some (true,()):=by
 have hl:=uV k m p;refine JD (Dq k m p) [0] 400 (by omega) (by omega) (by rw [Tf];omega) (fun c hc=>by simp at hc;omega) (by simp) (fun j x hj=>?_) (by simp;omega);rcases oU k m p x (List.mem_of_getElem? hj) with ⟨l,rfl,h1,h2⟩ |rfl
 ·exact ⟨fun n hn=>PC (by omega) l,by show l.length<=400;omega,fun c hc=>by have:=h2 c hc;omega⟩
 ·exact ⟨fun n hn=>Vz n p hp hn,by show 0<=400;omega,fun c hc=>by cases hc⟩
theorem Xm (m:Nat):l3 (m+300) Cd [97]=some ((5,(false,((false,([],(0,0))),[97]))),(0,())):=by kernel_rfl
theorem XG (m:Nat):l3 (m+300) Cu []=some ((1,(false,((false,([],(0,0))),[]))),(0,())):=by kernel_rfl
theorem Vc (n:Nat) (p:List UInt8) (hp:Uf p) (h:300<=n):∃ v,l3 n (uA p) p=some (v,(0,()))/\(v.1=5∨v.1=1)/\v.2.2.2=p:=by
 obtain ⟨m,rfl⟩:∃ m,n=m+300:=⟨n - 300,by omega⟩;rcases hp with rfl |rfl
 ·exact ⟨_,XG m,.inr rfl,rfl⟩
 ·exact ⟨_,Xm m,.inl rfl,rfl⟩
theorem JR (g:List rj) (hg:g.length<10000) (h:∀ x∈g,x.1≠1∨∀ n,300<=n->∃ v,l3 n x.2.1 x.2.2.1=some (v,(0,()))):∀ (k n i:Nat),i+k=g.length->k+301<=n->yD n g (len g) (i:Int)=some ((),()):=by
 intro k
 induction k with
 |zero=>
  intro n i hi hn;obtain ⟨m,rfl⟩:∃ m,n=m+1:=⟨n - 1,by omega⟩;rw [yD];exact cF (SR g i (by omega)) rfl
 |succ k ih=>
  intro n i hi hn;obtain ⟨m,rfl⟩:∃ m,n=m+1:=⟨n - 1,by omega⟩;have hlt:i<g.length:=by omega
  have e2:g[Int.toNat (i:Int)]? =some g[i]:=zaj hlt;have hx:=h _ (List.getElem_mem hlt);generalize g[i]=x at e2 hx;rw [yD];refine cT (dp g i hlt) ?_;refine cT (nn i) ?_;refine bS e2 ?_;rw [Ci i (by omega)];by_cases h1:x.1=1
  ·refine cF (by rw [h1];rfl) ?_
   rcases hx with hx |hx
   ·exact absurd h1 hx
   ·obtain ⟨v,hv⟩:=hx (m+1) (by omega)
    refine bS hv ?_;refine cF rfl ?_;exact ih m (i+1) (by omega) (by omega)
  ·refine cT (show (x.1 !=(1:Int))=true by simpa using h1) ?_
   exact ih m (i+1) (by omega) (by omega)
theorem Mh (k m:Nat) (p:List UInt8) (hp:Uf p) (hk:k<300) (hm:m<300) (n:Nat) (hn:2000<=n):uW n (Dq k m p,[0])=some ((0:Int),()):=by
 have hl:=uV k m p;unfold uW;refine bS (JR (Dq k m p) (by omega) (fun x hx=>?_) _ n 0 (Nat.zero_add _) (by omega)) ?_
 ·rcases oU k m p x hx with ⟨l,rfl,_,_⟩ |rfl
  ·exact .inl (show (2:Int)≠1 by decide)
  ·refine .inr (fun n hn=>?_)
   obtain ⟨v,hv,_⟩:=Vc n p hp hn;exact ⟨v,hv⟩
 ·rfl
def UM (x:rj):List UInt8:=(((((Go.Lib.itoa x.1)++([32]:List UInt8))++(Go.Lib.itoa (len x.2.2.2.1)))++([32]:List UInt8))++x.2.1)++([10]:List UInt8)
def Zm (p:List UInt8) (x:rj):List UInt8:=bif x.1==2 then UM x else UM x++p
theorem LH (n:Nat) (x:rj) (r:Option (List UInt8×Unit)) (h1:0<=x.1) (h2:x.1<=1000) (h3:x.2.2.2.1.length<=1000) (h4:x.2.1.length<=100)
  (h:(bif (x.1 !=(1:Int)) then some (UM x,()) else
   Option.bind (l3 n x.2.1 x.2.2.1) fun y0=>
   bif (y0.2.1 !=(0:Int)) then none else
   Option.bind (bif (y0.1.1==(3:Int)) then none else some (y0.1.1==(4:Int))) fun b2=>
   bif b2 then none else
   bif (y0.1.1==(2:Int)) then none else
   bif (room ((List.length (UM x))+(List.length y0.1.2.2.2))) then
   some ((UM x++y0.1.2.2.2),())
   else none)=r):own n x=r:=by
 have b1:=iu x.1 h1 h2;have b2:=iu (len x.2.2.2.1) (by unfold len;omega) (by unfold len;omega);unfold own;refine cT (uR h1 h2) ?_;refine cT (c9 (by simp;omega)) ?_;refine cT (uR (by unfold len;omega) (by unfold len;omega)) ?_;refine cT (c9 (by simp;omega)) ?_;refine cT (c9 (by simp;omega)) ?_;refine cT (c9 (by simp;omega)) ?_;refine cT (c9 (by simp;omega)) ?_;exact h
theorem VD (k m:Nat) (p:List UInt8) (hp:Uf p) (hm:m<300) (x:rj) (hx:x∈Dq k m p) (n:Nat) (hn:300<=n):own n x=some (Zm p x,()):=by
 have hpl:p.length<=1:=by rcases hp with rfl |rfl<;>simp
 have hpt:(uA p).length<=30:=by rcases hp with rfl |rfl<;>decide
 rcases oU k m p x hx with ⟨l,rfl,h1,_⟩ |rfl
 ·refine LH n _ _ (show (0:Int)<=2 by decide) (show (2:Int)<=1000 by decide) (by show l.length<=1000;omega) (by show fT.length<=100;decide) ?_
  exact cT rfl rfl
 ·refine LH n _ _ (show (0:Int)<=1 by decide) (show (1:Int)<=1000 by decide) (by show 0<=1000;omega) (by show (uA p).length<=100;omega) ?_
  refine cF rfl ?_;obtain ⟨v,hv,h5,h6⟩:=Vc n p hp hn;refine bS hv ?_;refine cF rfl ?_;have q1:(v.1==(3:Int))=false:=by rcases h5 with h |h<;>(rw [h];rfl)
  have q2:(v.1==(4:Int))=false:=by rcases h5 with h |h<;>(rw [h];rfl)
  have q3:(v.1==(2:Int))=false:=by rcases h5 with h |h<;>(rw [h];rfl)
  refine bS (cF q1 (by rw [q2])) ?_;refine cF rfl ?_;refine cF q3 ?_;have b1:=iu 1 (by omega) (by omega);have b2:=iu (len ([]:List Int)) (by decide) (by decide)
  show (bif (room ((List.length (UM (1,(uA p,(p,([],true))))))+(List.length v.2.2.2))) then some ((UM (1,(uA p,(p,([],true))))++v.2.2.2),()) else none)=_
  rw [h6];refine cT (c9 (by unfold UM;simp only [zaf,zad,List.length_nil];omega)) ?_;rfl
theorem IA (t4:List Int) (g:List rj) (c0:List rj) (c1:List Int) (hg:g.length<10000) (h:∀ x∈g,x.1≠3):∀ (k n i:Nat),i+k=g.length->k<n->zQ n t4 g (len g) (i:Int) c0 c1=some ((),((c0,(c1,())),())):=by
 intro k
 induction k with
 |zero=>
  intro n i hi hn;obtain ⟨m,rfl⟩:∃ m,n=m+1:=⟨n - 1,by omega⟩;rw [zQ];exact cF (SR g i (by omega)) rfl
 |succ k ih=>
  intro n i hi hn;obtain ⟨m,rfl⟩:∃ m,n=m+1:=⟨n - 1,by omega⟩;have hlt:i<g.length:=by omega
  rw [zQ];refine cT (dp g i hlt) ?_;refine cT (nn i) ?_;refine bS (show g[Int.toNat (i:Int)]? =some g[i] from zaj hlt) ?_;refine cF (by have:=h _ (List.getElem_mem hlt);simpa using this) ?_;rw [Ci i (by omega)];exact ih m (i+1) (by omega) (by omega)
theorem It (k m:Nat) (p:List UInt8) (hp:Uf p) (hk:k<300) (hm:m<300) (n:Nat) (hn:200000<=n):checked n (Dq k m p,[0])=some ((0:Int),()):=by
 have hl:=uV k m p;unfold checked;refine bS (Fk k m p hp hk hm (n+1) (by omega)) ?_;refine cF rfl ?_;refine bS (Mh k m p hp hk hm (n+6) (by omega)) ?_;refine cF rfl ?_;refine bS (v:=((0:Int),(false,()))) ?_ rfl;unfold RX;refine bS (Fk k m p hp hk hm n (by omega)) ?_;refine cF rfl ?_;obtain ⟨c,hc,_⟩:=Dw (n+4) (by omega) (Dq k m p) [0] (Zm p) (fun _ _=>False) ⟨fun _ _ h=>h.elim,fun _ _ _ _ h=>h.elim⟩ (by omega) (fun x hx n hn=>VD k m p hp hm x hx n (by omega)) (fun x hx=>by
  rcases oU k m p x hx with ⟨l,rfl,h1,h2⟩ |rfl
  ·exact ⟨by show l.length<=100000;omega,fun c hc=>by have:=h2 c hc;omega⟩
  ·exact ⟨by show 0<=100000;omega,fun c hc=>by cases hc⟩)
 refine bS hc ?_;refine bS (IA c (Dq k m p) (Dq k m p) [0] (by omega) (fun x hx=>by
  rcases oU k m p x hx with ⟨l,rfl,_,_⟩ |rfl
  ·show (2:Int)≠3;decide
  ·show (1:Int)≠3;decide) _ (n+8) 0 (Nat.zero_add _) (by omega)) ?_
 rfl
set_option maxRecDepth 10000
def pb:Nat->List UInt8
 |0=> []
 |k+1=>pb k++ [97,44]
theorem JE (k:Nat):(pb k).length=2*k:=by
 induction k with
 |zero=>rfl
 |succ k ih=>simp [pb,ih];omega
theorem XN (k:Nat):∀ j,(pb k).map ub++q0 j=q0 (k+j):=by
 induction k with
 |zero=>intro j;rw [Nat.zero_add];rfl
 |succ k ih=>
  intro j
  show (pb k++ [97,44]).map ub++q0 j=_
  rw [List.map_append,List.append_assoc,show k+1+j=k+(j+1) by omega,←ih (j+1)];rfl
theorem WT (k:Nat):∀ x∈pb k,lt7 x:=by
 induction k with
 |zero=>intro x hx;cases hx
 |succ k ih=>
  intro x hx;rcases List.mem_append.1 hx with h |h
  ·exact ih x h
  ·simp at h;rcases h with rfl |rfl<;>exact ⟨by decide,by decide⟩
def bN (k:Nat):List UInt8:=([91]++pb k)++ [93]
theorem Wk (k:Nat):(bN k).map ub=91::q0 k:=by
 have:=XN k 0;unfold bN;rw [List.map_append,List.map_append,List.append_assoc];exact congrArg (91::·) this
theorem PZ (k:Nat):(bN k).length=2*k+2:=by simp [bN,JE]
theorem XH (k:Nat):∀ x∈bN k,lt7 x:=by
 intro x hx;simp only [bN,List.mem_append,List.mem_cons,List.not_mem_nil,or_false] at hx;rcases hx with (rfl |h) |rfl
 ·exact ⟨by decide,by decide⟩
 ·exact WT k x h
 ·exact ⟨by decide,by decide⟩
theorem Uv (k:Nat):∃ r,pb (k+1)=97::44::r:=by
 induction k with
 |zero=>exact ⟨[],rfl⟩
 |succ k ih=>
  obtain ⟨r,h⟩:=ih;exact ⟨r++ [97,44],by show pb (k+1)++ [97,44]=_;rw [h];rfl⟩
theorem Um (k n:Nat) (hn:100<=n):form n (bN k)=some (1,0,()):=by
 obtain ⟨m,rfl⟩:∃ m,n=m+60:=⟨n - 60,by omega⟩;cases k with
 |zero=>exact XW m []
 |succ k=>
  obtain ⟨r,h⟩:=Uv k;unfold bN;rw [h,show ([91]++(97::44::r))++ [93]=91::97::(44::(r++ [93])) from rfl];exact XD m _
theorem NN (t1 t2:Int) (k:Nat) (hk:k<1000):∀ (j n i:Nat),i+j=k->j<n->IY n (k:Int) t1 t2 ([91]++pb i) (i:Int)=some (((k:Int),(t1,(t2,([91]++pb k,())))),()):=by
 intro j
 induction j with
 |zero=>
  intro n i hi hn;obtain ⟨m,rfl⟩:∃ m,n=m+1:=⟨n - 1,by omega⟩;rw [IY];have:i=k:=by omega
  subst this;exact cF (br (by omega)) rfl
 |succ j ih=>
  intro n i hi hn;obtain ⟨m,rfl⟩:∃ m,n=m+1:=⟨n - 1,by omega⟩;rw [IY];refine cT (bA (by omega)) ?_;refine cT (c9 (by simp [JE];omega)) ?_;rw [Ci i (by omega),List.append_assoc];exact ih m (i+1) (by omega) (by omega)
theorem HH (a b:Int) (h:a<=b):vg a b=a:=by
 unfold vg;rw [br (by omega)];rfl
theorem TD (b:Int) (h0:0<=b) (h1:b<=1048576):(bif (aR (1048576:Int) (bif (aR (0:Int) b) then b else (0:Int))) then (1048576:Int) else (bif (aR (0:Int) b) then b else (0:Int)))=b:=by
 have e:(bif (aR (0:Int) b) then b else (0:Int))=b:=by
  by_cases h:0<b
  ·rw [bA h];rfl
  ·rw [br (by omega)];show (0:Int)=b;omega
 rw [e,br (by omega)];rfl
theorem VH (k:Nat) (hk:k<=200):∃ x r,TH (91::q0 k) 91 x r:=by
 obtain ⟨x,r,hx,h1,h2⟩:=C0 k;exact ⟨x,r,by rw [hx],by have:=B4 k;simp;omega,by decide,by decide,by decide,by decide,.inl (by decide)⟩
theorem R2 (j m:Nat) (f:Bool) (p:List UInt8):∀ x∈body j m f p,x.2.2.1= []:=by
 intro x hx;simp only [body,List.mem_append,List.mem_replicate] at hx;rcases hx with ⟨_,rfl⟩ |⟨_,rfl⟩ |⟨_,rfl⟩<;>rfl
theorem RR (j m:Nat) (f:Bool) (p:List UInt8):(body j m f p).length=2*j+m:=by simp [body];omega
theorem Td (k:Nat) (hk:k<=200):PX (91::q0 k) (some (body 1 k true [97])):=
 ⟨fun n hn=>Xf k n (by omega) hn,fun e he=>by cases he;exact ⟨by simp [body],by rw [RR];omega,R2 _ _ _ _⟩⟩
theorem YM (k:Nat) (hk:k<=200) (n:Nat) (hn:7000<=n):events n (bN k)=some (od false false 1 k true [97],(0:Int),()):=by
 obtain ⟨x,r,h⟩:=VH k hk;have hm:=Wk k;exact RQ (bN k) (by rw [hm];exact h) (some (body 1 k true [97])) (by rw [hm];exact Td k hk) (XH k) (by decide) (fun n hn=>Um k n hn) n hn
theorem Zb:Uf [97]:= .inr rfl
theorem Wi (k:Nat) (hk:k<=200) (n:Nat) (hn:300000<=n) (by_ nd:Int) (h0:0<=by_) (h1:by_<=1000) (h2:0<=nd) (h3:nd<=300):
  load n (bN k) (by_,((5:Int),nd)) 2=if by_<((2*k+2:Nat):Int) then some (([],([]:List Int)),(3:Int),()) else if nd<((1+k:Nat):Int) then some (([],([]:List Int)),(9:Int),()) else some ((Dq 0 k [97],[0]),(0:Int),()):=by
 have hl:=PZ k;have e1:len (bN k)=((2*k+2:Nat):Int):=by unfold len;rw [hl]
 unfold load
 show (bif (aR (bif (aR (1048576:Int) (bif (aR (0:Int) by_) then by_ else (0:Int))) then (1048576:Int) else (bif (aR (0:Int) by_) then by_ else (0:Int))) (len (bN k))) then _ else _)=_
 rw [TD by_ h0 (by omega),e1];by_cases hb:by_<((2*k+2:Nat):Int)
 ·rw [if_pos hb];exact cT (bA hb) rfl
 ·rw [if_neg hb]
  refine cF (br (by omega)) ?_;refine bS (YM k hk n (by omega)) ?_;refine cF rfl ?_;by_cases hn2:nd<((1+k:Nat):Int)
  ·rw [if_pos hn2]
   refine bS (Uk false false k true [97] 5 nd (by omega) (n+6) (by omega) (by decide) (by rw [HH nd _ (by omega)];omega) (by rw [HH nd _ (by omega)];omega)) ?_;exact cT rfl rfl
  ·rw [if_neg hn2]
   refine bS (XU false false 0 k true [97] 5 nd (by omega) (by omega) (n+6) (by omega) (by decide) (by rw [HH nd _ (by omega)];omega)) ?_;refine cF rfl ?_;refine bS (zm 0 k [97] Zb (by omega) (by omega) (n+2) (by omega)) ?_;refine bS (It 0 k [97] Zb (by omega) (by omega) (n+1) (by omega)) ?_;exact cF rfl rfl
theorem yv (n:Nat) (hn:300000<=n) (k:Nat) (x1 x2:Int) (h1:k<=200) (h2:0<=x1) (h3:x1<=300) (h4:0<=x2) (h5:x2<=1000):dQ n (k:Int) x1 x2=some (true,()):=by
 have hl:=PZ k;have e1:len (bN k)=((2*k+2:Nat):Int):=by unfold len;rw [hl]
 have hL:IY (n+12) (k:Int) x1 x2 [91] 0=some (((k:Int),(x1,(x2,([91]++pb k,())))),()):=NN x1 x2 k (by omega) k (n+12) 0 (Nat.zero_add _) (by omega);unfold dQ;refine bS (v:=false) (cF (br (by omega)) (cF (br (by omega)) (cF (br (by omega)) (cF (br (by omega)) (cF (br (by omega)) (by rw [br (by omega)])))))) ?_;refine cF rfl ?_;refine bS hL ?_;refine cT (c9 (by simp [JE];omega)) ?_;have hload:=Wi k h1 n hn x2 x1 h4 h5 h2 h3;have ew:zal ((k:Int)+1)=((k+1:Nat):Int):=Ci k (by omega);by_cases hb:x2<((2*k+2:Nat):Int)
 ·rw [if_pos hb] at hload
  refine bS hload ?_;refine cT (show aR x2 (len (bN k))=true from by rw [e1];exact bA hb) ?_;exact cT rfl rfl
 ·rw [if_neg hb] at hload
  by_cases hn2:x1<((1+k:Nat):Int)
  ·rw [if_pos hn2] at hload
   refine bS hload ?_;refine cF (show aR x2 (len (bN k))=false from by rw [e1];exact br (by omega)) ?_;refine cT (show aR x1 (zal ((k:Int)+1))=true from by rw [ew];exact bA (by omega)) ?_;exact cT rfl rfl
  ·rw [if_neg hn2] at hload
   refine bS hload ?_;refine cF (show aR x2 (len (bN k))=false from by rw [e1];exact br (by omega)) ?_;refine cF (show aR x1 (zal ((k:Int)+1))=false from by rw [ew];exact br (by omega)) ?_;refine cT rfl ?_;exact cT (show ((len (Dq 0 k [97]))==(zal ((k:Int)+1)))=true from by rw [ew,gz];exact decide_eq_true (by unfold len;rw [uV];omega)) rfl
theorem v8 (n:Nat) (hn:300000<=n) (x0 x1 x2:Int) (_:Sh.wf am x0) (_:Sh.wf am x1) (_:Sh.wf am x2):dQ n x0 x1 x2=some (true,()):=by
 by_cases a1:x0<0
 ·unfold dQ;exact bS (v:=true) (cT (bA a1) rfl) rfl
 by_cases a2:200<x0
 ·unfold dQ;exact bS (v:=true) (cF (br (by omega)) (cT (bA a2) rfl)) rfl
 by_cases a3:x1<0
 ·unfold dQ;exact bS (v:=true) (cF (br (by omega)) (cF (br (by omega)) (cT (bA a3) rfl))) rfl
 by_cases a4:300<x1
 ·unfold dQ;exact bS (v:=true) (cF (br (by omega)) (cF (br (by omega)) (cF (br (by omega)) (cT (bA a4) rfl)))) rfl
 by_cases a5:x2<0
 ·unfold dQ;exact bS (v:=true) (cF (br (by omega)) (cF (br (by omega)) (cF (br (by omega)) (cF (br (by omega)) (cT (bA a5) rfl))))) rfl
 by_cases a6:1000<x2
 ·unfold dQ;exact bS (v:=true) (cF (br (by omega)) (cF (br (by omega)) (cF (br (by omega)) (cF (br (by omega)) (cF (br (by omega)) (by rw [bA a6])))))) rfl
 obtain ⟨k,rfl⟩:∃ k:Nat,x0=(k:Int):=⟨x0.toNat,by omega⟩;exact yv n hn k x1 x2 (by omega) (by omega) (by omega) (by omega) (by omega)
end Go.Proofs.YtdelfjdjenlaiaaGreatDoor
namespace Go.Proofs.YtdelfjdjenlaiaaGreatDoor
open Go Go.Iv Go.Gv Go.Shelf Go.Proofs
def GM:Go.Shelf.Ren:=⟨fun |171=>73 |243=>104 |246=>129 |283=>152 |284=>153 |285=>154 |286=>155 |129=>181 |317=>180 |318=>182 |319=>183 |320=>184 |337=>202 |338=>203 |n=>n,fun |3=>3 |9=>9 |2=>2 |4=>4 |171=>218 |0=>0 |53=>217 |37=>30 |5=>5 |173=>221 |212=>245 |51=>246 |20=>20 |213=>247 |46=>141 |232=>284 |233=>285 |n=>n,fun |17=>2 |18=>5 |19=>6 |n=>n⟩
theorem TS:Go.Proofs.LaysM.n171 Tryz.prog GM:={
 mixed:=by kernel_rfl
 f129:=Tryz.func181.trans (congrArg some (by kernel_rfl))
 f171:=Tryz.func73.trans (congrArg some (by kernel_rfl))
 f243:=Tryz.func104.trans (congrArg some (by kernel_rfl))
 f246:=Tryz.func129.trans (congrArg some (by kernel_rfl))
 f283:=Tryz.func152.trans (congrArg some (by kernel_rfl))
 f284:=Tryz.func153.trans (congrArg some (by kernel_rfl))
 f285:=Tryz.func154.trans (congrArg some (by kernel_rfl))
 f286:=Tryz.func155.trans (congrArg some (by kernel_rfl))
 f317:=Tryz.func180.trans (congrArg some (by kernel_rfl))
 f318:=Tryz.func182.trans (congrArg some (by kernel_rfl))
 f319:=Tryz.func183.trans (congrArg some (by kernel_rfl))
 f320:=Tryz.func184.trans (congrArg some (by kernel_rfl))
 f337:=Tryz.func202.trans (congrArg some (by kernel_rfl))
 f338:=Tryz.func203.trans (congrArg some (by kernel_rfl))
 t0:=Tryz.underlying0
 a0:=Tryz.isAgg0
 z0:=Tryz.sizeOf0
 v0:=Tryz.zeroValue0
 t2:=Tryz.underlying2
 a2:=Tryz.isAgg2
 z2:=Tryz.sizeOf2
 v2:=Tryz.zeroValue2
 t3:=Tryz.underlying3
 a3:=Tryz.isAgg3
 z3:=Tryz.sizeOf3
 v3:=Tryz.zeroValue3
 t4:=Tryz.underlying4
 a4:=Tryz.isAgg4
 z4:=Tryz.sizeOf4
 v4:=Tryz.zeroValue4
 t5:=Tryz.underlying5
 a5:=Tryz.isAgg5
 z5:=Tryz.sizeOf5
 v5:=Tryz.zeroValue5
 t9:=Tryz.underlying9
 a9:=Tryz.isAgg9
 z9:=Tryz.sizeOf9
 v9:=Tryz.zeroValue9
 t20:=Tryz.underlying20
 a20:=Tryz.isAgg20
 z20:=Tryz.sizeOf20
 v20:=Tryz.zeroValue20
 t37:=Tryz.underlying30
 a37:=Tryz.isAgg30
 z37:=Tryz.sizeOf30
 v37:=Tryz.zeroValue30
 t46:=Tryz.underlying141
 a46:=Tryz.isAgg141
 z46:=Tryz.sizeOf141
 v46:=Tryz.zeroValue141
 t51:=Tryz.underlying246
 a51:=Tryz.isAgg246
 z51:=Tryz.sizeOf246
 v51:=Tryz.zeroValue246
 t53:=Tryz.underlying217
 a53:=Tryz.isAgg217
 z53:=Tryz.sizeOf217
 v53:=Tryz.zeroValue217
 t171:=Tryz.underlying218
 a171:=Tryz.isAgg218
 z171:=Tryz.sizeOf218
 v171:=Tryz.zeroValue218
 t173:=Tryz.underlying221
 a173:=Tryz.isAgg221
 z173:=Tryz.sizeOf221
 v173:=Tryz.zeroValue221
 t212:=Tryz.underlying245
 a212:=Tryz.isAgg245
 z212:=Tryz.sizeOf245
 v212:=Tryz.zeroValue245
 t213:=Tryz.underlying247
 a213:=Tryz.isAgg247
 z213:=Tryz.sizeOf247
 t232:=Tryz.underlying284
 a232:=Tryz.isAgg284
 z232:=Tryz.sizeOf284
 v232:=Tryz.zeroValue284
 t233:=Tryz.underlying285
 a233:=Tryz.isAgg285
 z233:=Tryz.sizeOf285
 v233:=Tryz.zeroValue285
 g17:=by kernel_rfl
 g18:=by kernel_rfl
 g19:=by kernel_rfl
 i0:=by kernel_rfl
 i2:=by kernel_rfl
 i3:=by kernel_rfl
 i4:=by kernel_rfl
 i5:=by kernel_rfl
 i9:=by kernel_rfl
 i20:=by kernel_rfl
 i37:=by kernel_rfl
 i46:=by kernel_rfl
 i51:=by kernel_rfl
 i53:=by kernel_rfl
 i171:=by kernel_rfl
 i173:=by kernel_rfl
 i212:=by kernel_rfl
 i232:=by kernel_rfl
 i233:=by kernel_rfl
 m17:=by kernel_rfl
 m18:=by kernel_rfl
 m19:=by kernel_rfl
}
def GD:Go.Shelf.Ren:=⟨fun |196=>100 |259=>126 |n=>n,fun |9=>9 |4=>4 |3=>3 |5=>5 |12=>12 |119=>183 |0=>0 |46=>141 |139=>186 |138=>185 |53=>217 |n=>n,fun |3=>0 |4=>1 |n=>n⟩
theorem Th:Go.Proofs.Lays.n196 Tryz.prog GD:={
 mixed:=by kernel_rfl
 f196:=Tryz.func100.trans (congrArg some (by kernel_rfl))
 f259:=Tryz.func126.trans (congrArg some (by kernel_rfl))
 t0:=Tryz.underlying0
 a0:=Tryz.isAgg0
 z0:=Tryz.sizeOf0
 v0:=Tryz.zeroValue0
 t3:=Tryz.underlying3
 a3:=Tryz.isAgg3
 z3:=Tryz.sizeOf3
 v3:=Tryz.zeroValue3
 t4:=Tryz.underlying4
 a4:=Tryz.isAgg4
 z4:=Tryz.sizeOf4
 v4:=Tryz.zeroValue4
 t5:=Tryz.underlying5
 a5:=Tryz.isAgg5
 z5:=Tryz.sizeOf5
 v5:=Tryz.zeroValue5
 t9:=Tryz.underlying9
 a9:=Tryz.isAgg9
 z9:=Tryz.sizeOf9
 v9:=Tryz.zeroValue9
 t12:=Tryz.underlying12
 a12:=Tryz.isAgg12
 z12:=Tryz.sizeOf12
 v12:=Tryz.zeroValue12
 t46:=Tryz.underlying141
 a46:=Tryz.isAgg141
 z46:=Tryz.sizeOf141
 v46:=Tryz.zeroValue141
 t53:=Tryz.underlying217
 a53:=Tryz.isAgg217
 z53:=Tryz.sizeOf217
 v53:=Tryz.zeroValue217
 t119:=Tryz.underlying183
 a119:=Tryz.isAgg183
 z119:=Tryz.sizeOf183
 t138:=Tryz.underlying185
 a138:=Tryz.isAgg185
 z138:=Tryz.sizeOf185
 v138:=Tryz.zeroValue185
 t139:=Tryz.underlying186
 a139:=Tryz.isAgg186
 z139:=Tryz.sizeOf186
 v139:=Tryz.zeroValue186
 g3:=by kernel_rfl
 g4:=by kernel_rfl
}
theorem ZG:sC Tryz.prog 0 5 0:=M9 QO
theorem YY:sC Tryz.prog 1 73 2:=MW ⟨_,_,Tryz.func73,rfl⟩ (by kernel_rfl) fun n w h0 h1 ht=>Go.Proofs.Any.strconv_Itoa TS n h0 h1 w ht
theorem XI:sC Tryz.prog 3 100 1:=H7 (g1:=0) (g2:=1) (by decide) ⟨_,_,Tryz.func100,rfl⟩ fun s w h1 h2=>Go.Proofs.Any.utf8_ValidString Th s w h1 h2
theorem QB:jt Tryz.prog (cH hint):=Q1 (show pf Tryz.prog UW from ⟨ZG,YY,XI,trivial⟩)
end Go.Proofs.YtdelfjdjenlaiaaGreatDoor
