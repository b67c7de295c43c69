/- From a row's world to the pure functions: the first heap with a list of the caller's in it, the whole law. -/
import Derived.Test.YtnddpppljnjmcaaGreatDoorGvLoop
import Derived.Test.YtnddpppljnjmcaaGreatDoorIvRow
import Derived.ChangeSlices
import Derived.Carry
set_option linter.unusedSimpArgs false
set_option linter.unusedVariables false
namespace Go.Gv
open Go Go.Iv Go.RowKit
variable {P:Program} {hint:Hint} {sh:cr}
def bz (φ:Nat→Nat×Nat) (m:Nat):Ga:=⟨fun i=>if i<bT then (i,0) else φ i,fun i=>i<bT+m⟩
def wo (w:World) (Γ:Ga) (x:GV):Prop:=∃ cs f,w.heap[(Γ.φ x.1).1]? =some (.cells cs x.2.1 f)∧(Γ.φ x.1).2+x.2.2.length≤cs.size∧(x.1<bT→(Γ.φ x.1).2=0∧cs.size=x.2.2.length)∧
 ∀ (i:Nat) (v:Value),x.2.2[i]? =some v→∃ v',cs[(Γ.φ x.1).2+i]? =some v'∧VR Γ w v v'
theorem wo.mono {w:World} {Γ Γ':Ga} {x:GV} (h:wo w Γ x) (hg:Γ.le Γ') (hd:Γ.aW x.1):wo w Γ' x:=by
 obtain ⟨cs,f,h1,h2,h3,h4⟩:=h
 have e:=hg.φ x.1 hd
 refine ⟨cs,f,by rw [e];exact h1,by rw [e];exact h2,by rw [e];exact h3,fun i v hv=>?_⟩
 obtain ⟨v',h5,h6⟩:=h4 i v hv
 exact ⟨v',by rw [e];exact h5,h6.mono hg (.refl _)⟩
theorem eh {l:List GV} {b:Nat} {o:bI} (h:(bm l).get b=some o):∃ x∈l,x.1=b∧o= .cells x.2.2 x.2.1 0 (Nat.blt x.1 bT) false:=
 HE (by rw [←h,IH.get_eq];rfl)
theorem J8 {w:World} {l:List GV} {φ:Nat→Nat×Nat} {m:Nat} (hm:bT+m≤dm) (hl:∀ x∈l,x.1<bT+m∧wo w (bz φ m) x):Rh (bz φ m) (bm l) w:=by
 refine ⟨fun b hb=>Nat.lt_of_lt_of_le hb hm,Nat.le_refl _,fun g hg=>⟨Nat.lt_of_lt_of_le hg (Nat.le_add_right _ _),by show (if g<bT then (g,0) else φ g)=(g,0);rw [if_pos hg]⟩,fun b o h=>?_,fun b b' o o' hro h _ _=>?_,fun b o h=>?_⟩
 ·obtain ⟨x,hx,rfl,_⟩:=eh h;exact (hl x hx).1
 ·obtain ⟨x,hx,rfl,_⟩:=eh h
  have:=(hl x hx).1
  omega
 ·obtain ⟨x,hx,rfl,rfl⟩:=eh h
  obtain ⟨h1,cs,⟨lo,hi'⟩,h3,h4,h6,h5⟩:=hl x hx
  refine ⟨cs,lo,hi',h3,h4,fun i v hv=>h5 i v hv,fun hx=>h6 (Nat.le_of_ble_eq_true hx),fun hro=>?_,fun x=>(by cases x)⟩
  omega
theorem Hf {w w':World} {l:List GV} {φ:Nat→Nat×Nat} {m:Nat} {Γ':Ga} {H':IH} (hl:∀ x∈l,x.1<dm) (h:Iv.Ext (bz φ m) (bm l) w Γ' H' w'):Below w.heap.size w w':=by
 refine ⟨h.os,h.tape,h.output,h.size,fun k hk=>h.dj k hk ?_⟩
 rintro ⟨i,o,hro,hi,_⟩
 obtain ⟨x,hx,rfl,_⟩:=eh hi
 have h1:=hl x hx
 omega
def Am:bb:=fun g=>if g<bT then some ⟨some (g,0),0,1,0⟩ else none
def ki (sh:cr) (Pu:Nat→Prop) (I:IH):Prop:=∀ g T,g<bT→sh.tb g=some T→Pu g∧∃ vs et fz ex sd,I.get g=some (.cells vs et fz ex sd)∧ex=true∧vs.length=List.length T.xs*T.e.sz∧
 ∀ i x,T.xs[i]? =some x→i*T.e.sz+T.e.sz≤vs.length∧bL Pu I T.e x ((vs.drop (i*T.e.sz)).take T.e.sz)
theorem K0 {l:List GV} {Pu:Nat→Prop} (hl:∀ x∈l,x.1<dm) (hp:∀ b,Pu b→∃ cs et fz ex sd,(bm l).get b=some (.cells cs et fz ex sd)) (ht:ki sh Pu (bm l)):ar P hint sh Am Pu H0 (bm l) where
 obj:=fun id o h=>by rw [ml] at h;cases h
 inj:=fun id id' o o' l l' b h=>by rw [ml] at h;cases h
 sep:=fun b ⟨id,o,l,h,_⟩=>by rw [ml] at h;cases h
 aW:=fun id l h=>by
  unfold Am at h
  split at h
  ·rename_i hg;exact Nat.lt_trans hg (by decide)
  ·cases h
 fresh:=fun b hb=>by
  cases h:(bm l).get b with
  |none=>rfl
  |some o=>
   obtain ⟨x,hx,rfl,_⟩:=eh h
   have h1:dm≤x.1:=hb
   have:=hl x hx
   omega
 pu:=hp
 ro:=Nat.le_refl _
 gn:=by decide
 ct:=fun g hg=>⟨_,by unfold Am;rw [if_pos hg],rfl⟩
 st:=fun id s h=>by cases h
 Ll:=ht
structure pB (W:World) (l:List GV) (φ:Nat→Nat×Nat) (m:Nat):Prop where
 Tq:bT+m≤dm
 each:∀ x∈l,x.1<bT+m∧wo W (bz φ m) x
def Fx (l:List GV):Nat→Prop:=fun b=>∃ o,(bm l).get b=some o
theorem pB.lt {W:World} {l:List GV} {φ:Nat→Nat×Nat} {m:Nat} (h:pB W l φ m):∀ x∈l,x.1<dm:=fun x hx=>Nat.lt_of_lt_of_le (h.each x hx).1 h.Tq
theorem Fx.pu {l:List GV} (b:Nat) (h:Fx l b):∃ cs et fz ex sd,(bm l).get b=some (.cells cs et fz ex sd):=by
 obtain ⟨o,h⟩:=h
 obtain ⟨x,_,_,rfl⟩:=eh h
 exact ⟨_,_,_,_,_,h⟩
structure iF (l:List GV) (φ:Nat→Nat×Nat) (m:Nat) (l':List GV) (φ':Nat→Nat×Nat) (m':Nat):Prop where
 g:(bz φ m).le (bz φ' m')
 h:∀ b o,(bm l).get b=some o→(bm l').get b=some o
theorem iF.refl (l:List GV) (φ:Nat→Nat×Nat) (m:Nat):iF l φ m l φ m:=⟨.refl _,fun _ _ h=>h⟩
theorem iF.enc {l l':List GV} {φ φ':Nat→Nat×Nat} {m m':Nat} (h:iF l φ m l' φ' m') {s:Sh} {x:s.ty} {vs:List Value} (he:bL (Fx l) (bm l) s x vs):bL (Fx l') (bm l') s x vs:=
 he.mono (fun b ⟨o,hb⟩=>⟨o,h.h b o hb⟩) (fun b ⟨o,hb⟩=>(h.h b o hb).trans hb.symm)
theorem iF.vr {l l':List GV} {φ φ':Nat→Nat×Nat} {m m':Nat} (h:iF l φ m l' φ' m') {W:World} {v v':Value} (hv:VR (bz φ m) W v v'):VR (bz φ' m') W v v':=hv.mono h.g (.refl _)
theorem iF.SM {l l':List GV} {φ φ':Nat→Nat×Nat} {m m':Nat} (h:iF l φ m l' φ' m') (ht:ki sh (Fx l) (bm l)):ki sh (Fx l') (bm l'):=fun g T hg hT=>by
 obtain ⟨⟨o,h1⟩,vs,et,fz,ex,sd,h2,h4,h5,h3⟩:=ht g T hg hT
 exact ⟨⟨o,h.h g o h1⟩,vs,et,fz,ex,sd,h.h g _ h2,h4,h5,fun i x hx=>⟨(h3 i x hx).1,h.enc (h3 i x hx).2⟩⟩
def PY (φ:Nat→Nat×Nat) (m:Nat) (p:Nat×Nat):Nat→Nat×Nat:=fun i=>if i=bT+m then p else φ i
theorem Pq {φ:Nat→Nat×Nat} {m:Nat} {p:Nat×Nat} {i:Nat} (hi:i<bT+m):(bz (PY φ m p) (m+1)).φ i=(bz φ m).φ i:=by
 show (if i<bT then (i,0) else if i=bT+m then p else φ i)=(if i<bT then (i,0) else φ i)
 rw [if_neg (show ¬ i=bT+m by omega)]
theorem oF {φ:Nat→Nat×Nat} {m:Nat} {p:Nat×Nat}:(bz (PY φ m p) (m+1)).φ (bT+m)=p:=by
 show (if bT+m<bT then (bT+m,0) else if bT+m=bT+m then p else φ (bT+m))=p
 rw [if_neg (by omega),if_pos rfl]
theorem vz {φ:Nat→Nat×Nat} {m:Nat} {p:Nat×Nat}:(bz φ m).le (bz (PY φ m p) (m+1)):=
 ⟨fun i hi=>by
  have:i<bT+m:=hi
  show i<bT+(m+1)
  omega,fun i hi=>Pq hi⟩
theorem pB.room {W:World} {l:List GV} {φ:Nat→Nat×Nat} {m:Nat} (h:pB W l φ m) (hm:bT+m<dm) (p:Nat×Nat):
  pB W l (PY φ m p) (m+1)∧iF l φ m l (PY φ m p) (m+1):=
 ⟨⟨by omega,fun x hx=>by
  obtain ⟨h1,h2⟩:=h.each x hx
  exact ⟨by omega,h2.mono vz h1⟩⟩,⟨vz,fun _ _ h=>h⟩⟩
theorem pB.add {W:World} {l:List GV} {φ:Nat→Nat×Nat} {m:Nat} (h:pB W l φ m) (hm:bT+m<dm) (p:Nat×Nat) (et:TypeId) (vals:List Value)
  (hh:∃ cs f,W.heap[p.1]? =some (.cells cs et f)∧p.2+vals.length≤cs.size∧∀ (i:Nat) (v:Value),vals[i]? =some v→∃ v',cs[p.2+i]? =some v'∧VR (bz φ m) W v v'):
  pB W ((bT+m,et,vals)::l) (PY φ m p) (m+1)∧iF l φ m ((bT+m,et,vals)::l) (PY φ m p) (m+1)∧
   (bz (PY φ m p) (m+1)).φ (bT+m)=p∧(bm ((bT+m,et,vals)::l)).get (bT+m)=some (.cells vals et 0 false false):=by
 have hget:∀ b,(bm ((bT+m,et,vals)::l)).get b=if b=bT+m then some (.cells vals et 0 false false) else (bm l).get b:=fun b=>by
  rw [IH.get_eq,IH.get_eq]
  have hlt:Nat.blt (bT+m) bT=false:=by
   cases h:Nat.blt (bT+m) bT with
   |false=>rfl
   |true=>have:=Nat.le_of_ble_eq_true h;omega
  show ((p7 l).put (kx (bT+m)) (some (.cells vals et 0 (Nat.blt (bT+m) bT) false))).get (kx b)=_
  rw [Tr.ah,yD,hlt];rfl
 refine ⟨⟨by omega,fun x hx=>?_⟩,⟨vz,fun b o hb=>?_⟩,oF,by rw [hget,if_pos rfl]⟩
 ·rcases List.mem_cons.1 hx with rfl |hx
  ·refine ⟨by show bT+m<bT+(m+1);omega,?_⟩
   obtain ⟨cs,f,h1,h2,h3⟩:=hh
   refine ⟨cs,f,by rw [oF];exact h1,by rw [oF];exact h2,fun h=>by simp only at h;omega,fun i v hv=>?_⟩
   obtain ⟨v',h4,h5⟩:=h3 i v hv
   exact ⟨v',by rw [oF];exact h4,h5.mono vz (.refl _)⟩
  ·obtain ⟨h1,h2⟩:=h.each x hx
   exact ⟨by omega,h2.mono vz h1⟩
 ·rw [hget,if_neg]
  ·exact hb
  ·rintro rfl
   obtain ⟨x,hx,h1,_⟩:=eh hb
   have:=(h.each x hx).1
   omega
def tA:(s:Sh)→s.ty→Option (List Value)
 | .int k,n=>some [.int k n]
 | .byte,c=>some [.int .u8 c.toNat]
 | .bool,b=>some [.bool b]
 | .str,s=>some [.string (ba s)]
 | .cons a b,x=>match tA a x.1,tA b x.2 with
  |some u,some w=>some (u++w)
  |_,_=>none
 | .bQ _,_=>none
theorem um {Pu:Nat→Prop} {I:IH}:∀ {s:Sh} {x:s.ty} {vs:List Value},tA s x=some vs→bL Pu I s x vs:=by
 intro s
 induction s with
 |int k=>intro x vs h;cases h;unfold bL;rfl
 |byte=>intro x vs h;cases h;unfold bL;rfl
 |bool=>intro x vs h;cases h;unfold bL;rfl
 |str=>intro x vs h;cases h;unfold bL;rfl
 |cons a b iha ihb=>
  intro x vs h
  unfold tA at h
  split at h
  ·rename_i u w h1 h2
   cases h
   unfold bL
   exact ⟨u,w,rfl,iha h1,ihb h2⟩
  ·cases h
 |bQ e _=>intro x vs h;cases h
def dU (s:Sh):List s.ty→Option (List Value)
 | []=>some []
 |x::r=>match tA s x,dU s r with
  |some u,some w=>some (u++w)
  |_,_=>none
theorem Eg {Pu:Nat→Prop} {I:IH} {s:Sh}:∀ {xs:List s.ty} {vs:List Value},dU s xs=some vs→∀ i x,xs[i]? =some x→i*s.sz+s.sz≤vs.length∧bL Pu I s x ((vs.drop (i*s.sz)).take s.sz):=by
 intro xs
 induction xs with
 |nil=>intro vs _ i x hx;simp at hx
 |cons y r ih=>
  intro vs h i x hx
  unfold dU at h
  split at h
  ·rename_i u w h1 h2
   cases h
   have henc:=um (Pu:=Pu) (I:=I) h1
   have hlen:=henc.len
   cases i with
   |zero=>
    simp only [List.getElem?_cons_zero,Option.some.injEq] at hx
    subst hx
    rw [Nat.zero_mul,Nat.zero_add,List.drop_zero,←hlen,List.take_left']
    ·exact ⟨by simp,henc⟩
    ·rfl
   |succ i=>
    rw [List.getElem?_cons_succ] at hx
    obtain ⟨h3,h4⟩:=ih h2 i x hx
    have e:(i+1)*s.sz=u.length+i*s.sz:=by rw [hlen,Nat.add_mul];omega
    refine ⟨by rw [e,List.length_append];omega,?_⟩
    rw [e,←List.drop_drop,List.drop_left']
    ·exact h4
    ·rfl
  ·cases h
theorem AG {s:Sh}:∀ {xs:List s.ty} {vs:List Value},dU s xs=some vs→vs.length=List.length xs*s.sz:=by
 intro xs
 induction xs with
 |nil=>intro vs h;cases h;simp
 |cons y r ih=>
  intro vs h
  unfold dU at h
  split at h
  ·rename_i u w h1 h2
   cases h
   have:=(um (Pu:=fun _=>True) (I:=bm []) h1).len
   rw [List.length_append,ih h2,this,List.length_cons,Nat.add_mul];omega
  ·cases h
def Cl:List (Nat×Tb)→List (Nat×List Value)
 | []=> []
 |(g,T)::r=>(g,(dU T.e T.xs).getD [])::Cl r
def AB:List (Nat×Tb)→Bool
 | []=>true
 |(_,T)::r=>(dU T.e T.xs).isSome &&AB r
theorem OU {E:Nat→TypeId}:∀ {L:List (Nat×Tb)},AB L=true→∀ g T,Nt L g=some T→∃ vs,dU T.e T.xs=some vs∧(bm (Rj (Cl L) E)).get g=some (.cells vs (E g) 0 (Nat.blt g bT) false):=by
 intro L
 induction L with
 |nil=>intro _ g T h;cases h
 |cons p r ih=>
  obtain ⟨g0,T0⟩:=p
  intro hg g T h
  unfold AB at hg
  simp only [Bool.and_eq_true] at hg
  have hget:(bm (Rj (Cl ((g0,T0)::r)) E)).get g=if g=g0 then some (.cells ((dU T0.e T0.xs).getD []) (E g0) 0 (Nat.blt g0 bT) false) else (bm (Rj (Cl r) E)).get g:=by
   rw [IH.get_eq,IH.get_eq]
   show ((p7 (Rj (Cl r) E)).put (kx g0) (some (.cells ((dU T0.e T0.xs).getD []) (E g0) 0 (Nat.blt g0 bT) false))).get (kx g)=_
   rw [Tr.ah,yD];rfl
  unfold Nt at h
  cases hb:Nat.beq g0 g with
  |true=>
   rw [hb] at h;cases h
   have:=Nat.eq_of_beq_eq_true hb
   subst this
   obtain ⟨vs,hv⟩:=Option.isSome_iff_exists.1 hg.1
   exact ⟨vs,hv,by rw [hget,if_pos rfl,hv];rfl⟩
  |false=>
   rw [hb] at h
   have hne:¬ g=g0:=by rintro rfl;rw [Nat.beq_refl] at hb;cases hb
   obtain ⟨vs,h1,h2⟩:=ih hg.2 g T h
   exact ⟨vs,h1,by rw [hget,if_neg hne];exact h2⟩
theorem pB.tables {fuel:Nat} {w:World} {laid:List (String×DataW Unit)} {L:List (Nat×Tb)} (hn:(laid.filter fun x=>x.2.handleName?.isSome)= []) (hl:laidMetH P laid w) (hg:∀ x∈Cl L,x∈nc P fuel laid) (hok:AB L=true) (htb:sh.tb=Nt L):
  ∃ l φ,pB w l φ 0∧ki sh (Fx l) (bm l):=by
 obtain ⟨ps,hps⟩:=K7 hn hl
 refine ⟨Rj (Cl L) (elemAt w),fun _=>(0,0),⟨by decide,fun x hx=>?_⟩,fun g T hg2 hT=>?_⟩
 ·obtain ⟨y,hy,rfl⟩:=List.mem_map.1 hx
  obtain ⟨h1,h2,cs,f,h3,h4,h5⟩:=xF (f:=fuel) laid ps hps _ (List.mem_map.2 ⟨y,hg y hy,rfl⟩)
  have e:(bz (fun _=>(0,0)) 0).φ y.1=(y.1,0):=by
   show (if y.1<bT then (y.1,0) else (0,0))=_
   rw [if_pos h1]
  exact ⟨h1,cs,f,by rw [e];exact h3,by rw [e];simpa using Nat.le_of_eq h4,fun _=>by rw [e];exact ⟨rfl,h4.symm⟩,fun i v hv=>⟨v,by rw [e];simp only [Nat.zero_add];exact h5 i v hv,.bS (List.all_eq_true.1 h2 v (List.mem_of_getElem? hv))⟩⟩
 ·rw [htb] at hT
  obtain ⟨vs,h1,h2⟩:=OU (E:=elemAt w) hok g T hT
  exact ⟨⟨_,h2⟩,vs,_,_,_,_,h2,Nat.ble_eq_true_of_le hg2,AG h1,Eg h1⟩
theorem pB.bare {w:World} (htb:∀ g,sh.tb g=none):∃ l φ,pB w l φ 0∧ki sh (Fx l) (bm l):=
 ⟨[],fun _=>(0,0),⟨by decide,fun x hx=>by cases hx⟩,fun g T _ hT=>by rw [htb] at hT;cases hT⟩
theorem Pk (hsp:qB P (cw hint)) (hng:je P=true) (hm:P.follows .mixedOrders=true) {it:aT} {n:Nat} (hal:lD (hint gT) it.f=none) (hok:ao P hint sh it n) {x:bW it.pa} {y:bW it.re} (hF:it.F n x=some y)
  (hy:∀ {Γ:bb} {Pu:Nat→Prop} {I:IH} {v:Value},GR Γ Pu I (nI (gZ it.re y)) v→v= .bool true)
  {l:List GV} {φ:Nat→Nat×Nat} {m:Nat} {w:World} (hS:pB w l φ m) (ht:ki sh (Fx l) (bm l))
  {vs:List Value} (hd:vi (Fx l) (bm l) it.pa x vs) {args:Array Value} (hv:bP (bz φ m) w vs args.toList):
  Calls P it.f args w fun e w'=>e= .returned (.bool true)∧Below w.heap.size w w':=by
 obtain ⟨Pu1,I1,v,r1,r2,_⟩:=hok.run hF (K0 (P:=P) (hint:=hint) hS.lt Fx.pu ht) hd
 have hb:=hy (r2 Am)
 subst hb
 have hc:(ev P hint (cw hint) (n+it.D+1)).call it.f vs (bm l)=some (.returned (.bool true),I1):=by
  show dx P hint (cw hint) (ev P hint (cw hint) (n+it.D)) it.f vs (bm l)=_
  simp only [dx,cw,hal]
  exact r1
 have:=(M0 hng (Px hm hng) (hsp) (n+it.D+1)).1.call hc (J8 hS.Tq hS.each) hv
 refine (callsIn_wide.1 this).mono ?_
 rintro e1 w1 ⟨Γ1,he,_,hE⟩
 cases he with
 |returned hv=>rw [hv.ED];exact ⟨rfl,Hf hS.lt hE⟩
def qV (P:Program) (k f g:Nat):Prop:=(∃ fn c,P.funcs[f]? =some fn∧fn.body=some c)∧∀ {args:List Value} {I:IH} {v:Value},iH k g args I=some v→∀ {Γ:Ga} {w:World} {args':Array Value},Rh Γ I w→bP Γ w args args'.toList→CallsIn Fence.wide 0 P f args' w (zo Γ I w (.returned v) I)
def nT (P:Program):List Nat→Prop
 |k::f::g::r=>qV P k f g∧nT P r
 |_=>True
theorem MD (h:nT P (hint gT)):qB P (cw hint):=by
 intro f args I e I' hs
 unfold cw at hs
 split at hs
 ·rename_i k g hf
  unfold IP at hs
  rw [Option.map_eq_some_iff] at hs
  obtain ⟨v,hv,he⟩:=hs
  cases he
  have key:∀ l,nT P l→lD l f=some (k,g)→qV P k f g:=by
   intro l
   induction l using nT.induct with
   |case1 k1 f1 g1 r ih=>
    intro h1 h2
    unfold lD at h2
    cases hb:Nat.beq f f1 with
    |true=>
     rw [hb] at h2;cases h2
     have:=Nat.eq_of_beq_eq_true hb
     subst this
     exact h1.1
    |false=>rw [hb] at h2;exact ih h1.2 h2
   |case2 l hl=>
    intro _ h2
    unfold lD at h2
    split at h2
    ·exact absurd rfl (hl _ _ _ _)
    ·cases h2
  have h1:=key _ h hf
  exact ⟨h1.1,fun hR ha=>h1.2 hv hR ha⟩
 ·cases hs
theorem l9 {f:Nat} {args':Array Value} {w:World} {Γ:Ga} {I:IH} {v v':Value} (hR:Rh Γ I w) (hv:∀ w',VR Γ w' v v') (h:Calls P f args' w fun e w'=>e= .returned v'∧Below w.heap.size w w'):
  CallsIn Fence.wide 0 P f args' w (zo Γ I w (.returned v) I):=by
 refine (callsIn_wide.2 h).mono ?_
 rintro e w1 ⟨rfl,hb⟩
 have dj:∀ b,b<w.heap.size→w1.heap[b]? =w.heap[b]? :=hb.block
 have hS:dT w w1:=fun b cs e f h=>⟨cs,f,(dj b (Array.getElem?_eq_some_iff.1 h).1).trans h,rfl⟩
 refine ⟨Γ,.returned (hv w1),⟨hR.aW,hR.ro,hR.ct,hR.live,hR.inj,fun b o hb'=>(hR.obj b o hb').mono (.refl Γ) hS (hR.live b o hb') (dj _ (hR.lt hb'))⟩,?_⟩
 exact ⟨Nat.le_refl _,fun _ _=>rfl,fun i=>⟨.inl,fun x=>x.elim id fun x=>by omega⟩,hb.size,hb.os,hb.tape,hb.output,hS,fun b hb' _=>dj b hb',fun _ _ x=>x,fun _ _ o x=>⟨o,x⟩⟩
theorem Aj {w:World} {a:Addr} {i:Nat} {v:Value} (hs:a.spot=none) (h:w.cell? (a.add i)=some v):∃ cs e f,w.heap[a.block]? =some (.cells cs e f)∧cs[a.off+i]? =some v:=by
 have ha:a.add i=⟨a.block,a.off+i,none⟩:=by
  obtain ⟨b,o,s⟩:=a
  simp only at hs
  subst hs
  unfold Addr.add
  split
  ·rename_i h0;subst h0;rfl
  ·rfl
 rw [ha] at h
 unfold World.cell? at h
 simp only at h
 split at h
 ·rename_i cs e f hb
  exact ⟨cs,e,f,hb,by simpa using h⟩
 ·cases h
theorem pB.list {w:World} {l:List GV} {φ:Nat→Nat×Nat} {m:Nat} (hS:pB w l φ m) (hm:bT+m<dm) {a:Addr} {len cap row cells:Nat} {vals:List Value} (hlen:vals.length=cap) (hlc:len≤cap) (hfree:vals.all aM=true) (hs:a.spot=none) (hsh:w.shape? a.block=some (row,cells))
  (hcell:∀ i v,vals[i]? =some v→w.cell? (a.add i)=some v):
  ∃ l' φ' et,pB w l' φ' (m+1)∧iF l φ m l' φ' (m+1)∧(bm l').get (bT+m)=some (.cells vals et 0 false false)∧VR (bz φ' (m+1)) w (.slice (some ⟨bT+m,0,none⟩) len (fC+1)) (.slice (some a) len cap):=by
 have hblk:∃ cs et f,w.heap[a.block]? =some (.cells cs et f):=by
  unfold World.shape? at hsh
  split at hsh
  ·rename_i cs e f hb;exact ⟨cs,e,f,hb⟩
  ·cases hsh
 obtain ⟨cs,et,f,hb⟩:=hblk
 have hdom:∀ φ',(bz φ' (m+1)).aW (bT+m):=fun φ'=>by show bT+m<bT+(m+1);omega
 rcases Nat.eq_zero_or_pos cap with h0 |h0
 ·subst h0
  have hv:vals= []:=List.length_eq_zero_iff.1 hlen
  subst hv
  have hl0:len=0:=by omega
  subst hl0
  obtain ⟨r1,r2,r3,r4⟩:=hS.add hm (a.block,0) et [] ⟨cs,f,hb,by simp,fun i v hv=>by simp at hv⟩
  exact ⟨_,_,et,r1,r2,r4,.dp (hdom _) (Nat.le_refl _) (.inl ⟨rfl,rfl,by rw [r3]⟩)⟩
 ·have each:∀ i v,vals[i]? =some v→cs[a.off+i]? =some v:=by
   intro i v hv
   obtain ⟨cs',e',f',hb',h'⟩:=Aj hs (hcell i v hv)
   cases hb.symm.trans hb'
   exact h'
  have hroom:a.off+cap≤cs.size:=by
   have hlast:∃ v,vals[cap - 1]? =some v:=⟨_,List.getElem?_eq_getElem (by omega)⟩
   obtain ⟨v,hv⟩:=hlast
   have:=each _ _ hv
   have:=(Array.getElem?_eq_some_iff.1 this).1
   omega
  obtain ⟨r1,r2,r3,r4⟩:=hS.add hm (a.block,a.off) et vals ⟨cs,f,hb,by simp only [hlen];exact hroom,fun i v hv=>⟨v,each i v hv,.bS (List.all_eq_true.1 hfree v (List.mem_of_getElem? hv))⟩⟩
  refine ⟨_,_,et,r1,r2,r4,.dp (hdom _) hlc (.inr ⟨?_,cs,et,f,hb,by simpa using hroom⟩)⟩
  obtain ⟨b,o,s⟩:=a
  simp only at hs
  subst hs
  simp only [Ga.at,r3,Nat.add_zero]
end Go.Gv
namespace Go.Gv
open Go Go.Iv Go.RowKit Go.ChangeShapes Go.WideShapes
variable {P:Program} {hint:Hint} {sh:cr} {H:Type} {enc:TypeId×Value→H}
end Go.Gv
namespace Go.Gv
open Go
open Go.ChangeShapes Go.RowKit in
theorem Bw {H:Type} {enc:TypeId×Value→H} {P:Program} {w:World} {base:Nat} {spare:Nat→Bool} {held:Bool} {t t' t2 t3 t4:TypeId} {args:Array Value} {ds:List (DataW H)} {ps:List MemPlace} (h:DataW.TrodAll enc P w base spare held [t,t',t2,t3,t4] args.toList ds ps):
  ∃ v v' v2 v3 v4 d d' d2 d3 d4 p p' p2 p3 p4,args=#[v,v',v2,v3,v4]∧ds= [d,d',d2,d3,d4]∧ps=p++p'++p2++p3++p4∧DataW.Trod enc P w base spare held t v d p∧DataW.Trod enc P w base spare held t' v' d' p'∧DataW.Trod enc P w base spare held t2 v2 d2 p2∧DataW.Trod enc P w base spare held t3 v3 d3 p3∧DataW.Trod enc P w base spare held t4 v4 d4 p4:=by
 obtain ⟨v,vs,d,ds0,p,q,hargs,rfl,rfl,hd,hrest⟩:=trodAll_cons h
 obtain ⟨v',vs',d',ds1,p',q',rfl,rfl,rfl,hd',hrest'⟩:=trodAll_cons hrest
 obtain ⟨v2,vs2,d2,ds2,p2,q2,rfl,rfl,rfl,hd2,hrest2⟩:=trodAll_cons hrest'
 obtain ⟨v3,vs3,d3,ds3,p3,q3,rfl,rfl,rfl,hd3,hrest3⟩:=trodAll_cons hrest2
 obtain ⟨v4,vs4,d4,ds4,p4,q4,rfl,rfl,rfl,hd4,hrest4⟩:=trodAll_cons hrest3
 obtain ⟨rfl,rfl,rfl⟩:=trodAll_nil hrest4
 exact ⟨v,v',v2,v3,v4,d,d',d2,d3,d4,p,p',p2,p3,p4,by cases args;simp_all,rfl,by simp,hd,hd',hd2,hd3,hd4⟩
open Go.ChangeShapes Go.RowKit in
theorem D9 {H:Type} {enc:TypeId×Value→H} {P:Program} {w:World} {base:Nat} {spare:Nat→Bool} {held:Bool} {t t' t2 t3 t4:TypeId} {v v' v2 v3 v4:Value} {d d' d2 d3 d4:DataW H} {p p' p2 p3 p4:List MemPlace} (h:DataW.Trod enc P w base spare held t v d p) (h':DataW.Trod enc P w base spare held t' v' d' p')
  (h2:DataW.Trod enc P w base spare held t2 v2 d2 p2) (h3:DataW.Trod enc P w base spare held t3 v3 d3 p3) (h4:DataW.Trod enc P w base spare held t4 v4 d4 p4):DataW.TrodAll enc P w base spare held [t,t',t2,t3,t4] [v,v',v2,v3,v4] [d,d',d2,d3,d4] (p++(p'++(p2++(p3++p4)))):=⟨p,p'++(p2++(p3++p4)),h,trodAll_mk4 h' h2 h3 h4,rfl⟩
end Go.Gv
