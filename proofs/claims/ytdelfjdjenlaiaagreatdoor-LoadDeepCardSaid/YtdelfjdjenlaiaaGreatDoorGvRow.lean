/- From a row's world to the pure functions: the first heap with a list of the caller's in it, the whole law. -/
import Derived.Test.YtdelfjdjenlaiaaGreatDoorGvLoop
import Derived.Test.YtdelfjdjenlaiaaGreatDoorIvRow
import Derived.ChangeSlices
import Derived.Carry
set_option linter.unusedSimpArgs false
set_option linter.unusedVariables false
namespace Go.Gv
open Go Go.Iv Go.RowKit
variable {P:Program} {hint:Hint} {sh:cA}
def bX (φ:Nat->Nat×Nat) (m:Nat):Ga:=⟨fun i=>if i<bU then (i,0) else φ i,fun i=>i<bU+m⟩
def yf (w:World) (Γ:Ga) (x:GV):Prop:=∃ cs f,w.heap[(Γ.φ x.1).1]? =some (.cells cs x.2.1 f)/\(Γ.φ x.1).2+x.2.2.length<=cs.size/\(x.1<bU->(Γ.φ x.1).2=0/\cs.size=x.2.2.length)/\
 ∀ (i:Nat) (v:Value),x.2.2[i]? =some v->∃ v',cs[(Γ.φ x.1).2+i]? =some v'/\VR Γ w v v'
theorem yf.mono {w:World} {Γ Γ':Ga} {x:GV} (h:yf w Γ x) (hg:Γ.le Γ') (hd:Γ.bj x.1):yf w Γ' x:=by
 obtain ⟨cs,f,h1,h2,h3,h4⟩:=h;have e:=hg.φ x.1 hd;refine ⟨cs,f,by rw [e];exact h1,by rw [e];exact h2,by rw [e];exact h3,fun i v hv=>?_⟩;obtain ⟨v',h5,h6⟩:=h4 i v hv;exact ⟨v',by rw [e];exact h5,h6.mono hg (.refl _)⟩
theorem fj {l:List GV} {b:Nat} {o:bA} (h:(bn l).get b=some o):∃ x∈l,x.1=b/\o= .cells x.2.2 x.2.1 0 (Nat.blt x.1 bU) false:=
 yd (by rw [←h,IH.get_eq];rfl)
theorem NG {w:World} {l:List GV} {φ:Nat->Nat×Nat} {m:Nat} (hm:bU+m<=dO) (hl:∀ x∈l,x.1<bU+m/\yf w (bX φ m) x):Rh (bX φ m) (bn l) w:=by
 refine ⟨fun b hb=>Nat.lt_of_lt_of_le hb hm,zai _,fun g hg=>⟨Nat.lt_of_lt_of_le hg (Nat.le_add_right _ _),by show (if g<bU then (g,0) else φ g)=(g,0);rw [if_pos hg]⟩,fun b o h=>?_,fun b b' o o' hro h _ _=>?_,fun b o h=>?_⟩
 ·obtain ⟨x,hx,rfl,_⟩:=fj h;exact (hl x hx).1
 ·obtain ⟨x,hx,rfl,_⟩:=fj h
  have:=(hl x hx).1;omega
 ·obtain ⟨x,hx,rfl,rfl⟩:=fj h
  obtain ⟨h1,cs,⟨lo,hi'⟩,h3,h4,h6,h5⟩:=hl x hx;refine ⟨cs,lo,hi',h3,h4,fun i v hv=>h5 i v hv,fun hx=>h6 (Nat.le_of_ble_eq_true hx),fun hro=>?_,fun x=>(by cases x)⟩;omega
theorem Jx {w w':World} {l:List GV} {φ:Nat->Nat×Nat} {m:Nat} {Γ':Ga} {H':IH} (hl:∀ x∈l,x.1<dO) (h:Iv.Ext (bX φ m) (bn l) w Γ' H' w'):Below w.heap.size w w':=by
 refine ⟨h.os,h.tape,h.output,h.size,fun k hk=>h.cI k hk ?_⟩;rintro ⟨i,o,hro,hi,_⟩;obtain ⟨x,hx,rfl,_⟩:=fj hi;have h1:=hl x hx;omega
def Dz:bc:=fun g=>if g<bU then some ⟨some (g,0),0,1,0⟩ else none
def lG (sh:cA) (Pu:Nat->Prop) (I:IH):Prop:=∀ g T,g<bU->sh.tb g=some T->Pu g/\∃ vs et fz ex sd,I.get g=some (.cells vs et fz ex sd)/\ex=true/\vs.length=List.length T.xs*T.e.sz/\
 ∀ i x,T.xs[i]? =some x->i*T.e.sz+T.e.sz<=vs.length/\cy Pu I T.e x ((vs.drop (i*T.e.sz)).take T.e.sz)
theorem Ng {l:List GV} {Pu:Nat->Prop} (hl:∀ x∈l,x.1<dO) (hp:∀ b,Pu b->∃ cs et fz ex sd,(bn l).get b=some (.cells cs et fz ex sd)) (ht:lG sh Pu (bn l)):aw P hint sh Dz Pu H0 (bn l) where
 obj:=fun id o h=>by rw [ot] at h;cases h
 inj:=fun id id' o o' l l' b h=>by rw [ot] at h;cases h
 sep:=fun b ⟨id,o,l,h,_⟩=>by rw [ot] at h;cases h
 bj:=fun id l h=>by
  unfold Dz at h;split at h
  ·rename_i hg;exact Nat.lt_trans hg (by decide)
  ·cases h
 fresh:=fun b hb=>by
  cases h:(bn l).get b with
  |none=>rfl
  |some o=>
   obtain ⟨x,hx,rfl,_⟩:=fj h;have h1:dO<=x.1:=hb;have:=hl x hx;omega
 pu:=hp
 ro:=zai _
 gn:=by decide
 cE:=fun g hg=>⟨_,by unfold Dz;rw [if_pos hg],rfl⟩
 st:=fun id s h=>by cases h
 HX:=ht
structure ri (W:World) (l:List GV) (φ:Nat->Nat×Nat) (m:Nat):Prop where
 Zq:bU+m<=dO
 each:∀ x∈l,x.1<bU+m/\yf W (bX φ m) x
def HD (l:List GV):Nat->Prop:=fun b=>∃ o,(bn l).get b=some o
theorem ri.lt {W:World} {l:List GV} {φ:Nat->Nat×Nat} {m:Nat} (h:ri W l φ m):∀ x∈l,x.1<dO:=fun x hx=>Nat.lt_of_lt_of_le (h.each x hx).1 h.Zq
theorem HD.pu {l:List GV} (b:Nat) (h:HD l b):∃ cs et fz ex sd,(bn l).get b=some (.cells cs et fz ex sd):=by
 obtain ⟨o,h⟩:=h;obtain ⟨x,_,_,rfl⟩:=fj h;exact ⟨_,_,_,_,_,h⟩
structure kj (l:List GV) (φ:Nat->Nat×Nat) (m:Nat) (l':List GV) (φ':Nat->Nat×Nat) (m':Nat):Prop where
 g:(bX φ m).le (bX φ' m')
 h:∀ b o,(bn l).get b=some o->(bn l').get b=some o
theorem kj.refl (l:List GV) (φ:Nat->Nat×Nat) (m:Nat):kj l φ m l φ m:=⟨.refl _,fun _ _ h=>h⟩
theorem kj.enc {l l':List GV} {φ φ':Nat->Nat×Nat} {m m':Nat} (h:kj l φ m l' φ' m') {s:Sh} {x:s.ty} {vs:List Value} (he:cy (HD l) (bn l) s x vs):cy (HD l') (bn l') s x vs:=
 he.mono (fun b ⟨o,hb⟩=>⟨o,h.h b o hb⟩) (fun b ⟨o,hb⟩=>(h.h b o hb).trans hb.symm)
theorem kj.vr {l l':List GV} {φ φ':Nat->Nat×Nat} {m m':Nat} (h:kj l φ m l' φ' m') {W:World} {v v':Value} (hv:VR (bX φ m) W v v'):VR (bX φ' m') W v v':=hv.mono h.g (.refl _)
theorem kj.Yy {l l':List GV} {φ φ':Nat->Nat×Nat} {m m':Nat} (h:kj l φ m l' φ' m') (ht:lG sh (HD l) (bn l)):lG sh (HD l') (bn l'):=fun g T hg hT=>by
 obtain ⟨⟨o,h1⟩,vs,et,fz,ex,sd,h2,h4,h5,h3⟩:=ht g T hg hT;exact ⟨⟨o,h.h g o h1⟩,vs,et,fz,ex,sd,h.h g _ h2,h4,h5,fun i x hx=>⟨(h3 i x hx).1,h.enc (h3 i x hx).2⟩⟩
def UN (φ:Nat->Nat×Nat) (m:Nat) (p:Nat×Nat):Nat->Nat×Nat:=fun i=>if i=bU+m then p else φ i
theorem Uo {φ:Nat->Nat×Nat} {m:Nat} {p:Nat×Nat} {i:Nat} (hi:i<bU+m):(bX (UN φ m p) (m+1)).φ i=(bX φ m).φ i:=by
 show (if i<bU then (i,0) else if i=bU+m then p else φ i)=(if i<bU then (i,0) else φ i)
 rw [if_neg (show ¬ i=bU+m by omega)]
theorem qH {φ:Nat->Nat×Nat} {m:Nat} {p:Nat×Nat}:(bX (UN φ m p) (m+1)).φ (bU+m)=p:=by
 show (if bU+m<bU then (bU+m,0) else if bU+m=bU+m then p else φ (bU+m))=p
 rw [if_neg (by omega),if_pos rfl]
theorem wE {φ:Nat->Nat×Nat} {m:Nat} {p:Nat×Nat}:(bX φ m).le (bX (UN φ m p) (m+1)):=
 ⟨fun i hi=>by
  have:i<bU+m:=hi
  show i<bU+(m+1)
  omega,fun i hi=>Uo hi⟩
theorem ri.room {W:World} {l:List GV} {φ:Nat->Nat×Nat} {m:Nat} (h:ri W l φ m) (hm:bU+m<dO) (p:Nat×Nat):
  ri W l (UN φ m p) (m+1)/\kj l φ m l (UN φ m p) (m+1):=
 ⟨⟨by omega,fun x hx=>by
  obtain ⟨h1,h2⟩:=h.each x hx;exact ⟨by omega,h2.mono wE h1⟩⟩,⟨wE,fun _ _ h=>h⟩⟩
theorem ri.add {W:World} {l:List GV} {φ:Nat->Nat×Nat} {m:Nat} (h:ri W l φ m) (hm:bU+m<dO) (p:Nat×Nat) (et:TypeId) (vals:List Value)
  (hh:∃ cs f,W.heap[p.1]? =some (.cells cs et f)/\p.2+vals.length<=cs.size/\∀ (i:Nat) (v:Value),vals[i]? =some v->∃ v',cs[p.2+i]? =some v'/\VR (bX φ m) W v v'):
  ri W ((bU+m,et,vals)::l) (UN φ m p) (m+1)/\kj l φ m ((bU+m,et,vals)::l) (UN φ m p) (m+1)/\
   (bX (UN φ m p) (m+1)).φ (bU+m)=p/\(bn ((bU+m,et,vals)::l)).get (bU+m)=some (.cells vals et 0 false false):=by
 have hget:∀ b,(bn ((bU+m,et,vals)::l)).get b=if b=bU+m then some (.cells vals et 0 false false) else (bn l).get b:=fun b=>by
  rw [IH.get_eq,IH.get_eq];have hlt:Nat.blt (bU+m) bU=false:=by
   cases h:Nat.blt (bU+m) bU with
   |false=>rfl
   |true=>have:=Nat.le_of_ble_eq_true h;omega
  show ((rp l).put (kx (bU+m)) (some (.cells vals et 0 (Nat.blt (bU+m) bU) false))).get (kx b)=_
  rw [Tr.ah,BI,hlt];rfl
 refine ⟨⟨by omega,fun x hx=>?_⟩,⟨wE,fun b o hb=>?_⟩,qH,by rw [hget,if_pos rfl]⟩
 ·rcases List.mem_cons.1 hx with rfl |hx
  ·refine ⟨by show bU+m<bU+(m+1);omega,?_⟩
   obtain ⟨cs,f,h1,h2,h3⟩:=hh;refine ⟨cs,f,by rw [qH];exact h1,by rw [qH];exact h2,fun h=>by simp only at h;omega,fun i v hv=>?_⟩;obtain ⟨v',h4,h5⟩:=h3 i v hv;exact ⟨v',by rw [qH];exact h4,h5.mono wE (.refl _)⟩
  ·obtain ⟨h1,h2⟩:=h.each x hx
   exact ⟨by omega,h2.mono wE h1⟩
 ·rw [hget,if_neg]
  ·exact hb
  ·rintro rfl
   obtain ⟨x,hx,h1,_⟩:=fj hb;have:=(h.each x hx).1;omega
def wj:(s:Sh)->s.ty->Option (List Value)
 | .int k,n=>some [.int k n]
 | .byte,c=>some [.int .u8 c.toNat]
 | .bool,b=>some [.bool b]
 | .str,s=>some [.string (ba s)]
 | .cons a b,x=>match wj a x.1,wj b x.2 with
  |some u,some w=>some (u++w)
  |_,_=>none
 | .aJ _,_=>none
theorem wX {Pu:Nat->Prop} {I:IH}:∀ {s:Sh} {x:s.ty} {vs:List Value},wj s x=some vs->cy Pu I s x vs:=by
 intro s
 induction s with
 |int k=>intro x vs h;cases h;unfold cy;rfl
 |byte=>intro x vs h;cases h;unfold cy;rfl
 |bool=>intro x vs h;cases h;unfold cy;rfl
 |str=>intro x vs h;cases h;unfold cy;rfl
 |cons a b iha ihb=>
  intro x vs h;unfold wj at h;split at h
  ·rename_i u w h1 h2
   cases h;unfold cy;exact ⟨u,w,rfl,iha h1,ihb h2⟩
  ·cases h
 |aJ e _=>intro x vs h;cases h
def eO (s:Sh):List s.ty->Option (List Value)
 | []=>some []
 |x::r=>match wj s x,eO s r with
  |some u,some w=>some (u++w)
  |_,_=>none
theorem Ea {Pu:Nat->Prop} {I:IH} {s:Sh}:∀ {xs:List s.ty} {vs:List Value},eO s xs=some vs->∀ i x,xs[i]? =some x->i*s.sz+s.sz<=vs.length/\cy Pu I s x ((vs.drop (i*s.sz)).take s.sz):=by
 intro xs
 induction xs with
 |nil=>intro vs _ i x hx;simp at hx
 |cons y r ih=>
  intro vs h i x hx;unfold eO at h;split at h
  ·rename_i u w h1 h2
   cases h;have henc:=wX (Pu:=Pu) (I:=I) h1;have hlen:=henc.len;cases i with
   |zero=>
    simp only [List.getElem?_cons_zero,Option.some.injEq] at hx;subst hx;rw [Nat.zero_mul,Nat.zero_add,List.drop_zero,←hlen,List.take_left']
    ·exact ⟨by simp,henc⟩
    ·rfl
   |succ i=>
    rw [List.getElem?_cons_succ] at hx;obtain ⟨h3,h4⟩:=ih h2 i x hx;have e:(i+1)*s.sz=u.length+i*s.sz:=by rw [hlen,zag];omega
    refine ⟨by rw [e,zaf];omega,?_⟩;rw [e,←zah,List.drop_left']
    ·exact h4
    ·rfl
  ·cases h
theorem Dn {s:Sh}:∀ {xs:List s.ty} {vs:List Value},eO s xs=some vs->vs.length=List.length xs*s.sz:=by
 intro xs
 induction xs with
 |nil=>intro vs h;cases h;simp
 |cons y r ih=>
  intro vs h;unfold eO at h;split at h
  ·rename_i u w h1 h2
   cases h;have:=(wX (Pu:=fun _=>True) (I:=bn []) h1).len;rw [zaf,ih h2,this,zad,zag];omega
  ·cases h
def Gp:List (Nat×Tb)->List (Nat×List Value)
 | []=> []
 |(g,T)::r=>(g,(eO T.e T.xs).getD [])::Gp r
def Ct:List (Nat×Tb)->Bool
 | []=>true
 |(_,T)::r=>(eO T.e T.xs).isSome &&Ct r
theorem Tz {E:Nat->TypeId}:∀ {L:List (Nat×Tb)},Ct L=true->∀ g T,Pd L g=some T->∃ vs,eO T.e T.xs=some vs/\(bn (V1 (Gp L) E)).get g=some (.cells vs (E g) 0 (Nat.blt g bU) false):=by
 intro L
 induction L with
 |nil=>intro _ g T h;cases h
 |cons p r ih=>
  obtain ⟨g0,T0⟩:=p;intro hg g T h;unfold Ct at hg;simp only [zae] at hg;have hget:(bn (V1 (Gp ((g0,T0)::r)) E)).get g=if g=g0 then some (.cells ((eO T0.e T0.xs).getD []) (E g0) 0 (Nat.blt g0 bU) false) else (bn (V1 (Gp r) E)).get g:=by
   rw [IH.get_eq,IH.get_eq]
   show ((rp (V1 (Gp r) E)).put (kx g0) (some (.cells ((eO T0.e T0.xs).getD []) (E g0) 0 (Nat.blt g0 bU) false))).get (kx g)=_
   rw [Tr.ah,BI];rfl
  unfold Pd at h;cases hb:Nat.beq g0 g with
  |true=>
   rw [hb] at h;cases h;have:=Nat.eq_of_beq_eq_true hb;subst this;obtain ⟨vs,hv⟩:=Option.isSome_iff_exists.1 hg.1;exact ⟨vs,hv,by rw [hget,if_pos rfl,hv];rfl⟩
  |false=>
   rw [hb] at h;have hne:¬ g=g0:=by rintro rfl;rw [Nat.beq_refl] at hb;cases hb
   obtain ⟨vs,h1,h2⟩:=ih hg.2 g T h;exact ⟨vs,h1,by rw [hget,if_neg hne];exact h2⟩
theorem ri.tables {fuel:Nat} {w:World} {laid:List (String×DataW Unit)} {L:List (Nat×Tb)} (hn:(laid.filter fun x=>x.2.handleName?.isSome)= []) (hl:laidMetH P laid w) (hg:∀ x∈Gp L,x∈oU P fuel laid) (hok:Ct L=true) (htb:sh.tb=Pd L):
  ∃ l φ,ri w l φ 0/\lG sh (HD l) (bn l):=by
 obtain ⟨ps,hps⟩:=NP hn hl;refine ⟨V1 (Gp L) (elemAt w),fun _=>(0,0),⟨by decide,fun x hx=>?_⟩,fun g T hg2 hT=>?_⟩
 ·obtain ⟨y,hy,rfl⟩:=List.mem_map.1 hx
  obtain ⟨h1,h2,cs,f,h3,h4,h5⟩:=yQ (f:=fuel) laid ps hps _ (List.mem_map.2 ⟨y,hg y hy,rfl⟩);have e:(bX (fun _=>(0,0)) 0).φ y.1=(y.1,0):=by
   show (if y.1<bU then (y.1,0) else (0,0))=_
   rw [if_pos h1]
  exact ⟨h1,cs,f,by rw [e];exact h3,by rw [e];simpa using Nat.le_of_eq h4,fun _=>by rw [e];exact ⟨rfl,h4.symm⟩,fun i v hv=>⟨v,by rw [e];simp only [Nat.zero_add];exact h5 i v hv,.cu (List.all_eq_true.1 h2 v (List.mem_of_getElem? hv))⟩⟩
 ·rw [htb] at hT
  obtain ⟨vs,h1,h2⟩:=Tz (E:=elemAt w) hok g T hT;exact ⟨⟨_,h2⟩,vs,_,_,_,_,h2,Nat.ble_eq_true_of_le hg2,Dn h1,Ea h1⟩
theorem ri.bare {w:World} (htb:∀ g,sh.tb g=none):∃ l φ,ri w l φ 0/\lG sh (HD l) (bn l):=
 ⟨[],fun _=>(0,0),⟨by decide,fun x hx=>by cases hx⟩,fun g T _ hT=>by rw [htb] at hT;cases hT⟩
theorem Uf (hsp:jB P (cP hint)) (hng:jE P=true) (hm:P.follows .mixedOrders=true) {it:bu} {n:Nat} (hal:nA (hint jr) it.f=none) (hok:aI P hint sh it n) {x:ak it.pa} {y:ak it.re} (hF:it.F n x=some y)
  (hy:∀ {Γ:bc} {Pu:Nat->Prop} {I:IH} {v:Value},GR Γ Pu I (jS (fH it.re y)) v->v= .bool true)
  {l:List GV} {φ:Nat->Nat×Nat} {m:Nat} {w:World} (hS:ri w l φ m) (ht:lG sh (HD l) (bn l))
  {vs:List Value} (hd:ua (HD l) (bn l) it.pa x vs) {args:Array Value} (hv:cB (bX φ m) w vs args.toList):
  Calls P it.f args w fun e w'=>e= .returned (.bool true)/\Below w.heap.size w w':=by
 obtain ⟨Pu1,I1,v,r1,r2,_⟩:=hok.run hF (Ng (P:=P) (hint:=hint) hS.lt HD.pu ht) hd;have hb:=hy (r2 Dz);subst hb;have hc:(ev P hint (cP hint) (n+it.D+1)).call it.f vs (bn l)=some (.returned (.bool true),I1):=by
  show di P hint (cP hint) (ev P hint (cP hint) (n+it.D)) it.f vs (bn l)=_
  simp only [di,cP,hal];exact r1
 have:=(Et hng (Ln hm hng) (hsp) (n+it.D+1)).1.call hc (NG hS.Zq hS.each) hv;refine (callsIn_wide.1 this).mono ?_;rintro e1 w1 ⟨Γ1,he,_,hE⟩;cases he with
 |returned hv=>rw [hv.By];exact ⟨rfl,Jx hS.lt hE⟩
def tX (P:Program) (k f g:Nat):Prop:=(∃ fn c,P.funcs[f]? =some fn/\fn.body=some c)/\∀ {args:List Value} {I:IH} {v:Value},jG k g args I=some v->∀ {Γ:Ga} {w:World} {args':Array Value},Rh Γ I w->cB Γ w args args'.toList->CallsIn Fence.wide 0 P f args' w (Bm Γ I w (.returned v) I)
def pR (P:Program):List Nat->Prop
 |k::f::g::r=>tX P k f g/\pR P r
 |_=>True
theorem Qj (h:pR P (hint jr)):jB P (cP hint):=by
 intro f args I e I' hs;unfold cP at hs;split at hs
 ·rename_i k g hf
  unfold KK at hs;rw [Option.map_eq_some_iff] at hs;obtain ⟨v,hv,he⟩:=hs;cases he;have key:∀ l,pR P l->nA l f=some (k,g)->tX P k f g:=by
   intro l
   induction l using pR.induct with
   |case1 k1 f1 g1 r ih=>
    intro h1 h2;unfold nA at h2;cases hb:Nat.beq f f1 with
    |true=>
     rw [hb] at h2;cases h2;have:=Nat.eq_of_beq_eq_true hb;subst this;exact h1.1
    |false=>rw [hb] at h2;exact ih h1.2 h2
   |case2 l hl=>
    intro _ h2;unfold nA at h2;split at h2
    ·exact absurd rfl (hl _ _ _ _)
    ·cases h2
  have h1:=key _ h hf;exact ⟨h1.1,fun hR ha=>h1.2 hv hR ha⟩
 ·cases hs
theorem Nj {f g:Nat} (hs:jB P (jU f)):tX P 0 f g:=by
 have hb:Nat.beq f f=true:=Nat.beq_refl f;refine ⟨(hs (f:=f) (args:= []) (H:=bn []) (by simp only [jU,hb];rfl)).1,fun {args I v} hv {Γ w args'} hR ha=>?_⟩;unfold jG at hv;split at hv
 ·cases hv
  exact (hs (f:=f) (args:= []) (H:=I) (by simp only [jU,hb];rfl)).2 hR ha
 ·exact absurd ‹(0:Nat)=1› (by decide)
 ·exact absurd ‹(0:Nat)=2› (by decide)
 ·exact absurd ‹(0:Nat)=3› (by decide)
 ·cases hv
theorem vn {f:Nat} {args':Array Value} {w:World} {Γ:Ga} {I:IH} {v v':Value} (hR:Rh Γ I w) (hv:∀ w',VR Γ w' v v') (h:Calls P f args' w fun e w'=>e= .returned v'/\Below w.heap.size w w'):
  CallsIn Fence.wide 0 P f args' w (Bm Γ I w (.returned v) I):=by
 refine (callsIn_wide.2 h).mono ?_;rintro e w1 ⟨rfl,hb⟩;have cI:∀ b,b<w.heap.size->w1.heap[b]? =w.heap[b]? :=hb.block;have hS:eN w w1:=fun b cs e f h=>⟨cs,f,(cI b (Array.getElem?_eq_some_iff.1 h).1).trans h,rfl⟩
 refine ⟨Γ,.returned (hv w1),⟨hR.bj,hR.ro,hR.cE,hR.live,hR.inj,fun b o hb'=>(hR.obj b o hb').mono (.refl Γ) hS (hR.live b o hb') (cI _ (hR.lt hb'))⟩,?_⟩;exact ⟨zai _,fun _ _=>rfl,fun i=>⟨.inl,fun x=>x.elim id fun x=>by omega⟩,hb.size,hb.os,hb.tape,hb.output,hS,fun b hb' _=>cI b hb',fun _ _ x=>x,fun _ _ o x=>⟨o,x⟩⟩
theorem C9 {w:World} {a:Addr} {i:Nat} {v:Value} (hs:a.spot=none) (h:w.cell? (a.add i)=some v):∃ cs e f,w.heap[a.block]? =some (.cells cs e f)/\cs[a.off+i]? =some v:=by
 have ha:a.add i=⟨a.block,a.off+i,none⟩:=by
  obtain ⟨b,o,s⟩:=a;simp only at hs;subst hs;unfold Addr.add;split
  ·rename_i h0;subst h0;rfl
  ·rfl
 rw [ha] at h;unfold World.cell? at h;simp only at h;split at h
 ·rename_i cs e f hb
  exact ⟨cs,e,f,hb,by simpa using h⟩
 ·cases h
theorem ri.list {w:World} {l:List GV} {φ:Nat->Nat×Nat} {m:Nat} (hS:ri w l φ m) (hm:bU+m<dO) {a:Addr} {len cap row cells:Nat} {vals:List Value} (hlen:vals.length=cap) (hlc:len<=cap) (hfree:vals.all aV=true) (hs:a.spot=none) (hsh:w.shape? a.block=some (row,cells))
  (hcell:∀ i v,vals[i]? =some v->w.cell? (a.add i)=some v):
  ∃ l' φ' et,ri w l' φ' (m+1)/\kj l φ m l' φ' (m+1)/\(bn l').get (bU+m)=some (.cells vals et 0 false false)/\VR (bX φ' (m+1)) w (.slice (some ⟨bU+m,0,none⟩) len (eE+1)) (.slice (some a) len cap):=by
 have hblk:∃ cs et f,w.heap[a.block]? =some (.cells cs et f):=by
  unfold World.shape? at hsh;split at hsh
  ·rename_i cs e f hb;exact ⟨cs,e,f,hb⟩
  ·cases hsh
 obtain ⟨cs,et,f,hb⟩:=hblk;have hdom:∀ φ',(bX φ' (m+1)).bj (bU+m):=fun φ'=>by show bU+m<bU+(m+1);omega
 rcases Nat.eq_zero_or_pos cap with h0 |h0
 ·subst h0
  have hv:vals= []:=List.length_eq_zero_iff.1 hlen;subst hv;have hl0:len=0:=by omega
  subst hl0;obtain ⟨r1,r2,r3,r4⟩:=hS.add hm (a.block,0) et [] ⟨cs,f,hb,by simp,fun i v hv=>by simp at hv⟩;exact ⟨_,_,et,r1,r2,r4,.dV (hdom _) (zai _) (.inl ⟨rfl,rfl,by rw [r3]⟩)⟩
 ·have each:∀ i v,vals[i]? =some v->cs[a.off+i]? =some v:=by
   intro i v hv;obtain ⟨cs',e',f',hb',h'⟩:=C9 hs (hcell i v hv);cases hb.symm.trans hb';exact h'
  have hroom:a.off+cap<=cs.size:=by
   have hlast:∃ v,vals[cap - 1]? =some v:=⟨_,zaj (by omega)⟩;obtain ⟨v,hv⟩:=hlast;have:=each _ _ hv;have:=(Array.getElem?_eq_some_iff.1 this).1;omega
  obtain ⟨r1,r2,r3,r4⟩:=hS.add hm (a.block,a.off) et vals ⟨cs,f,hb,by simp only [hlen];exact hroom,fun i v hv=>⟨v,each i v hv,.cu (List.all_eq_true.1 hfree v (List.mem_of_getElem? hv))⟩⟩;refine ⟨_,_,et,r1,r2,r4,.dV (hdom _) hlc (.inr ⟨?_,cs,et,f,hb,by simpa using hroom⟩)⟩;obtain ⟨b,o,s⟩:=a;simp only at hs;subst hs;simp only [Ga.at,r3,Nat.add_zero]
end Go.Gv
namespace Go.Gv
open Go Go.Iv Go.RowKit Go.ChangeShapes Go.WideShapes
variable {P:Program} {hint:Hint} {sh:cA} {H:Type} {enc:TypeId×Value->H}
end Go.Gv
namespace Go.Gv
open Go
end Go.Gv
