/- From a row's world to the pure functions: the first heap with a list of the caller's in it, the whole law. -/
import Derived.Test.YtdelfjdjenlaiaaGreatDoorGvLoop
import Derived.Test.YtdelfjdjenlaiaaGreatDoorIvRow
import Derived.ChangeSlices
import Derived.Carry
set_option linter.unusedSimpArgs false
set_option linter.unusedVariables false
namespace Go.Gv
open Go Go.Iv Go.RowKit
variable {P:Program} {hint:Hint} {sh:cw}
def bU (φ:Nat->Nat×Nat) (m:Nat):Ga:=⟨fun i=>if i<bQ then (i,0) else φ i,fun i=>i<bQ+m⟩
def xd (w:World) (Γ:Ga) (x:GV):Prop:=∃ cs f,w.heap[(Γ.φ x.1).1]? =some (.cells cs x.2.1 f)/\(Γ.φ x.1).2+x.2.2.length<=cs.size/\(x.1<bQ->(Γ.φ x.1).2=0/\cs.size=x.2.2.length)/\
 ∀ (i:Nat) (v:Value),x.2.2[i]? =some v->∃ v',cs[(Γ.φ x.1).2+i]? =some v'/\VR Γ w v v'
theorem xd.mono {w:World} {Γ Γ':Ga} {x:GV} (h:xd w Γ x) (hg:Γ.le Γ') (hd:Γ.bj x.1):xd w Γ' x:=by
 obtain ⟨cs,f,h1,h2,h3,h4⟩:=h;have e:=hg.φ x.1 hd;refine ⟨cs,f,by rw [e];exact h1,by rw [e];exact h2,by rw [e];exact h3,fun i v hv=>?_⟩;obtain ⟨v',h5,h6⟩:=h4 i v hv;exact ⟨v',by rw [e];exact h5,h6.mono hg (.refl _)⟩
theorem fc {l:List GV} {b:Nat} {o:bB} (h:(bn l).get b=some o):∃ x∈l,x.1=b/\o= .cells x.2.2 x.2.1 0 (Nat.blt x.1 bQ) false:=
 xI (by rw [←h,IH.get_eq];rfl)
theorem NL {w:World} {l:List GV} {φ:Nat->Nat×Nat} {m:Nat} (hm:bQ+m<=dJ) (hl:∀ x∈l,x.1<bQ+m/\xd w (bU φ m) x):Rh (bU φ m) (bn l) w:=by
 refine ⟨fun b hb=>Nat.lt_of_lt_of_le hb hm,zai _,fun g hg=>⟨Nat.lt_of_lt_of_le hg (Nat.le_add_right _ _),by show (if g<bQ then (g,0) else φ g)=(g,0);rw [if_pos hg]⟩,fun b o h=>?_,fun b b' o o' hro h _ _=>?_,fun b o h=>?_⟩
 ·obtain ⟨x,hx,rfl,_⟩:=fc h;exact (hl x hx).1
 ·obtain ⟨x,hx,rfl,_⟩:=fc h
  have:=(hl x hx).1;omega
 ·obtain ⟨x,hx,rfl,rfl⟩:=fc h
  obtain ⟨h1,cs,⟨lo,hi'⟩,h3,h4,h6,h5⟩:=hl x hx;refine ⟨cs,lo,hi',h3,h4,fun i v hv=>h5 i v hv,fun hx=>h6 (Nat.le_of_ble_eq_true hx),fun hro=>?_,fun x=>(by cases x)⟩;omega
theorem I8 {w w':World} {l:List GV} {φ:Nat->Nat×Nat} {m:Nat} {Γ':Ga} {H':IH} (hl:∀ x∈l,x.1<dJ) (h:Iv.Ext (bU φ m) (bn l) w Γ' H' w'):Below w.heap.size w w':=by
 refine ⟨h.os,h.tape,h.output,h.size,fun k hk=>h.cB k hk ?_⟩;rintro ⟨i,o,hro,hi,_⟩;obtain ⟨x,hx,rfl,_⟩:=fc hi;have h1:=hl x hx;omega
def B1:bc:=fun g=>if g<bQ then some ⟨some (g,0),0,1,0⟩ else none
def l6 (sh:cw) (Pu:Nat->Prop) (I:IH):Prop:=∀ g T,g<bQ->sh.tb g=some T->Pu g/\∃ vs et fz ex sd,I.get g=some (.cells vs et fz ex sd)/\ex=true/\vs.length=List.length T.xs*T.e.sz/\
 ∀ i x,T.xs[i]? =some x->i*T.e.sz+T.e.sz<=vs.length/\cq Pu I T.e x ((vs.drop (i*T.e.sz)).take T.e.sz)
theorem Mo {l:List GV} {Pu:Nat->Prop} (hl:∀ x∈l,x.1<dJ) (hp:∀ b,Pu b->∃ cs et fz ex sd,(bn l).get b=some (.cells cs et fz ex sd)) (ht:l6 sh Pu (bn l)):aw P hint sh B1 Pu H0 (bn l) where
 obj:=fun id o h=>by rw [nU] at h;cases h
 inj:=fun id id' o o' l l' b h=>by rw [nU] at h;cases h
 sep:=fun b ⟨id,o,l,h,_⟩=>by rw [nU] at h;cases h
 bj:=fun id l h=>by
  unfold B1 at h;split at h
  ·rename_i hg;exact Nat.lt_trans hg (by decide)
  ·cases h
 fresh:=fun b hb=>by
  cases h:(bn l).get b with
  |none=>rfl
  |some o=>
   obtain ⟨x,hx,rfl,_⟩:=fc h;have h1:dJ<=x.1:=hb;have:=hl x hx;omega
 pu:=hp
 ro:=zai _
 gn:=by decide
 cC:=fun g hg=>⟨_,by unfold B1;rw [if_pos hg],rfl⟩
 st:=fun id s h=>by cases h
 Ip:=ht
structure qZ (W:World) (l:List GV) (φ:Nat->Nat×Nat) (m:Nat):Prop where
 Za:bQ+m<=dJ
 each:∀ x∈l,x.1<bQ+m/\xd W (bU φ m) x
def Hw (l:List GV):Nat->Prop:=fun b=>∃ o,(bn l).get b=some o
theorem qZ.lt {W:World} {l:List GV} {φ:Nat->Nat×Nat} {m:Nat} (h:qZ W l φ m):∀ x∈l,x.1<dJ:=fun x hx=>Nat.lt_of_lt_of_le (h.each x hx).1 h.Za
theorem Hw.pu {l:List GV} (b:Nat) (h:Hw l b):∃ cs et fz ex sd,(bn l).get b=some (.cells cs et fz ex sd):=by
 obtain ⟨o,h⟩:=h;obtain ⟨x,_,_,rfl⟩:=fc h;exact ⟨_,_,_,_,_,h⟩
structure j8 (l:List GV) (φ:Nat->Nat×Nat) (m:Nat) (l':List GV) (φ':Nat->Nat×Nat) (m':Nat):Prop where
 g:(bU φ m).le (bU φ' m')
 h:∀ b o,(bn l).get b=some o->(bn l').get b=some o
theorem j8.refl (l:List GV) (φ:Nat->Nat×Nat) (m:Nat):j8 l φ m l φ m:=⟨.refl _,fun _ _ h=>h⟩
theorem j8.enc {l l':List GV} {φ φ':Nat->Nat×Nat} {m m':Nat} (h:j8 l φ m l' φ' m') {s:Sh} {x:s.ty} {vs:List Value} (he:cq (Hw l) (bn l) s x vs):cq (Hw l') (bn l') s x vs:=
 he.mono (fun b ⟨o,hb⟩=>⟨o,h.h b o hb⟩) (fun b ⟨o,hb⟩=>(h.h b o hb).trans hb.symm)
theorem j8.vr {l l':List GV} {φ φ':Nat->Nat×Nat} {m m':Nat} (h:j8 l φ m l' φ' m') {W:World} {v v':Value} (hv:VR (bU φ m) W v v'):VR (bU φ' m') W v v':=hv.mono h.g (.refl _)
theorem j8.YT {l l':List GV} {φ φ':Nat->Nat×Nat} {m m':Nat} (h:j8 l φ m l' φ' m') (ht:l6 sh (Hw l) (bn l)):l6 sh (Hw l') (bn l'):=fun g T hg hT=>by
 obtain ⟨⟨o,h1⟩,vs,et,fz,ex,sd,h2,h4,h5,h3⟩:=ht g T hg hT;exact ⟨⟨o,h.h g o h1⟩,vs,et,fz,ex,sd,h.h g _ h2,h4,h5,fun i x hx=>⟨(h3 i x hx).1,h.enc (h3 i x hx).2⟩⟩
def SW (φ:Nat->Nat×Nat) (m:Nat) (p:Nat×Nat):Nat->Nat×Nat:=fun i=>if i=bQ+m then p else φ i
theorem TL {φ:Nat->Nat×Nat} {m:Nat} {p:Nat×Nat} {i:Nat} (hi:i<bQ+m):(bU (SW φ m p) (m+1)).φ i=(bU φ m).φ i:=by
 show (if i<bQ then (i,0) else if i=bQ+m then p else φ i)=(if i<bQ then (i,0) else φ i)
 rw [if_neg (show ¬ i=bQ+m by omega)]
theorem pY {φ:Nat->Nat×Nat} {m:Nat} {p:Nat×Nat}:(bU (SW φ m p) (m+1)).φ (bQ+m)=p:=by
 show (if bQ+m<bQ then (bQ+m,0) else if bQ+m=bQ+m then p else φ (bQ+m))=p
 rw [if_neg (by omega),if_pos rfl]
theorem we {φ:Nat->Nat×Nat} {m:Nat} {p:Nat×Nat}:(bU φ m).le (bU (SW φ m p) (m+1)):=
 ⟨fun i hi=>by
  have:i<bQ+m:=hi
  show i<bQ+(m+1)
  omega,fun i hi=>TL hi⟩
theorem qZ.room {W:World} {l:List GV} {φ:Nat->Nat×Nat} {m:Nat} (h:qZ W l φ m) (hm:bQ+m<dJ) (p:Nat×Nat):
  qZ W l (SW φ m p) (m+1)/\j8 l φ m l (SW φ m p) (m+1):=
 ⟨⟨by omega,fun x hx=>by
  obtain ⟨h1,h2⟩:=h.each x hx;exact ⟨by omega,h2.mono we h1⟩⟩,⟨we,fun _ _ h=>h⟩⟩
theorem qZ.add {W:World} {l:List GV} {φ:Nat->Nat×Nat} {m:Nat} (h:qZ W l φ m) (hm:bQ+m<dJ) (p:Nat×Nat) (et:TypeId) (vals:List Value)
  (hh:∃ cs f,W.heap[p.1]? =some (.cells cs et f)/\p.2+vals.length<=cs.size/\∀ (i:Nat) (v:Value),vals[i]? =some v->∃ v',cs[p.2+i]? =some v'/\VR (bU φ m) W v v'):
  qZ W ((bQ+m,et,vals)::l) (SW φ m p) (m+1)/\j8 l φ m ((bQ+m,et,vals)::l) (SW φ m p) (m+1)/\
   (bU (SW φ m p) (m+1)).φ (bQ+m)=p/\(bn ((bQ+m,et,vals)::l)).get (bQ+m)=some (.cells vals et 0 false false):=by
 have hget:∀ b,(bn ((bQ+m,et,vals)::l)).get b=if b=bQ+m then some (.cells vals et 0 false false) else (bn l).get b:=fun b=>by
  rw [IH.get_eq,IH.get_eq];have hlt:Nat.blt (bQ+m) bQ=false:=by
   cases h:Nat.blt (bQ+m) bQ with
   |false=>rfl
   |true=>have:=Nat.le_of_ble_eq_true h;omega
  show ((rC l).put (kx (bQ+m)) (some (.cells vals et 0 (Nat.blt (bQ+m) bQ) false))).get (kx b)=_
  rw [Tr.ah,Bs,hlt];rfl
 refine ⟨⟨by omega,fun x hx=>?_⟩,⟨we,fun b o hb=>?_⟩,pY,by rw [hget,if_pos rfl]⟩
 ·rcases List.mem_cons.1 hx with rfl |hx
  ·refine ⟨by show bQ+m<bQ+(m+1);omega,?_⟩
   obtain ⟨cs,f,h1,h2,h3⟩:=hh;refine ⟨cs,f,by rw [pY];exact h1,by rw [pY];exact h2,fun h=>by simp only at h;omega,fun i v hv=>?_⟩;obtain ⟨v',h4,h5⟩:=h3 i v hv;exact ⟨v',by rw [pY];exact h4,h5.mono we (.refl _)⟩
  ·obtain ⟨h1,h2⟩:=h.each x hx
   exact ⟨by omega,h2.mono we h1⟩
 ·rw [hget,if_neg]
  ·exact hb
  ·rintro rfl
   obtain ⟨x,hx,h1,_⟩:=fc hb;have:=(h.each x hx).1;omega
def yg:(s:Sh)->s.ty->Option (List Value)
 | .int k,n=>some [.int k n]
 | .byte,c=>some [.int .u8 c.toNat]
 | .bool,b=>some [.bool b]
 | .str,s=>some [.string (ba s)]
 | .cons a b,x=>match yg a x.1,yg b x.2 with
  |some u,some w=>some (u++w)
  |_,_=>none
 | .aJ _,_=>none
theorem yb {Pu:Nat->Prop} {I:IH}:∀ {s:Sh} {x:s.ty} {vs:List Value},yg s x=some vs->cq Pu I s x vs:=by
 intro s
 induction s with
 |int k=>intro x vs h;cases h;unfold cq;rfl
 |byte=>intro x vs h;cases h;unfold cq;rfl
 |bool=>intro x vs h;cases h;unfold cq;rfl
 |str=>intro x vs h;cases h;unfold cq;rfl
 |cons a b iha ihb=>
  intro x vs h;unfold yg at h;split at h
  ·rename_i u w h1 h2
   cases h;unfold cq;exact ⟨u,w,rfl,iha h1,ihb h2⟩
  ·cases h
 |aJ e _=>intro x vs h;cases h
def eP (s:Sh):List s.ty->Option (List Value)
 | []=>some []
 |x::r=>match yg s x,eP s r with
  |some u,some w=>some (u++w)
  |_,_=>none
theorem EX {Pu:Nat->Prop} {I:IH} {s:Sh}:∀ {xs:List s.ty} {vs:List Value},eP s xs=some vs->∀ i x,xs[i]? =some x->i*s.sz+s.sz<=vs.length/\cq Pu I s x ((vs.drop (i*s.sz)).take s.sz):=by
 intro xs
 induction xs with
 |nil=>intro vs _ i x hx;simp at hx
 |cons y r ih=>
  intro vs h i x hx;unfold eP at h;split at h
  ·rename_i u w h1 h2
   cases h;have henc:=yb (Pu:=Pu) (I:=I) h1;have hlen:=henc.len;cases i with
   |zero=>
    simp only [List.getElem?_cons_zero,Option.some.injEq] at hx;subst hx;rw [Nat.zero_mul,Nat.zero_add,List.drop_zero,←hlen,List.take_left']
    ·exact ⟨by simp,henc⟩
    ·rfl
   |succ i=>
    rw [List.getElem?_cons_succ] at hx;obtain ⟨h3,h4⟩:=ih h2 i x hx;have e:(i+1)*s.sz=u.length+i*s.sz:=by rw [hlen,zag];omega
    refine ⟨by rw [e,zaf];omega,?_⟩;rw [e,←zah,List.drop_left']
    ·exact h4
    ·rfl
  ·cases h
theorem BV {s:Sh}:∀ {xs:List s.ty} {vs:List Value},eP s xs=some vs->vs.length=List.length xs*s.sz:=by
 intro xs
 induction xs with
 |nil=>intro vs h;cases h;simp
 |cons y r ih=>
  intro vs h;unfold eP at h;split at h
  ·rename_i u w h1 h2
   cases h;have:=(yb (Pu:=fun _=>True) (I:=bn []) h1).len;rw [zaf,ih h2,this,zad,zag];omega
  ·cases h
def G9:List (Nat×Tb)->List (Nat×List Value)
 | []=> []
 |(g,T)::r=>(g,(eP T.e T.xs).getD [])::G9 r
def C4:List (Nat×Tb)->Bool
 | []=>true
 |(_,T)::r=>(eP T.e T.xs).isSome &&C4 r
theorem Uu {E:Nat->TypeId}:∀ {L:List (Nat×Tb)},C4 L=true->∀ g T,RH L g=some T->∃ vs,eP T.e T.xs=some vs/\(bn (VU (G9 L) E)).get g=some (.cells vs (E g) 0 (Nat.blt g bQ) false):=by
 intro L
 induction L with
 |nil=>intro _ g T h;cases h
 |cons p r ih=>
  obtain ⟨g0,T0⟩:=p;intro hg g T h;unfold C4 at hg;simp only [zae] at hg;have hget:(bn (VU (G9 ((g0,T0)::r)) E)).get g=if g=g0 then some (.cells ((eP T0.e T0.xs).getD []) (E g0) 0 (Nat.blt g0 bQ) false) else (bn (VU (G9 r) E)).get g:=by
   rw [IH.get_eq,IH.get_eq]
   show ((rC (VU (G9 r) E)).put (kx g0) (some (.cells ((eP T0.e T0.xs).getD []) (E g0) 0 (Nat.blt g0 bQ) false))).get (kx g)=_
   rw [Tr.ah,Bs];rfl
  unfold RH at h;cases hb:Nat.beq g0 g with
  |true=>
   rw [hb] at h;cases h;have:=Nat.eq_of_beq_eq_true hb;subst this;obtain ⟨vs,hv⟩:=Option.isSome_iff_exists.1 hg.1;exact ⟨vs,hv,by rw [hget,if_pos rfl,hv];rfl⟩
  |false=>
   rw [hb] at h;have hne:¬ g=g0:=by rintro rfl;rw [Nat.beq_refl] at hb;cases hb
   obtain ⟨vs,h1,h2⟩:=ih hg.2 g T h;exact ⟨vs,h1,by rw [hget,if_neg hne];exact h2⟩
theorem qZ.tables {fuel:Nat} {w:World} {laid:List (String×DataW Unit)} {L:List (Nat×Tb)} (hn:(laid.filter fun x=>x.2.handleName?.isSome)= []) (hl:laidMetH P laid w) (hg:∀ x∈G9 L,x∈pM P fuel laid) (hok:C4 L=true) (htb:sh.tb=RH L):
  ∃ l φ,qZ w l φ 0/\l6 sh (Hw l) (bn l):=by
 obtain ⟨ps,hps⟩:=NZ hn hl;refine ⟨VU (G9 L) (elemAt w),fun _=>(0,0),⟨by decide,fun x hx=>?_⟩,fun g T hg2 hT=>?_⟩
 ·obtain ⟨y,hy,rfl⟩:=List.mem_map.1 hx
  obtain ⟨h1,h2,cs,f,h3,h4,h5⟩:=zp (f:=fuel) laid ps hps _ (List.mem_map.2 ⟨y,hg y hy,rfl⟩);have e:(bU (fun _=>(0,0)) 0).φ y.1=(y.1,0):=by
   show (if y.1<bQ then (y.1,0) else (0,0))=_
   rw [if_pos h1]
  exact ⟨h1,cs,f,by rw [e];exact h3,by rw [e];simpa using Nat.le_of_eq h4,fun _=>by rw [e];exact ⟨rfl,h4.symm⟩,fun i v hv=>⟨v,by rw [e];simp only [Nat.zero_add];exact h5 i v hv,.cp (List.all_eq_true.1 h2 v (List.mem_of_getElem? hv))⟩⟩
 ·rw [htb] at hT
  obtain ⟨vs,h1,h2⟩:=Uu (E:=elemAt w) hok g T hT;exact ⟨⟨_,h2⟩,vs,_,_,_,_,h2,Nat.ble_eq_true_of_le hg2,BV h1,EX h1⟩
theorem qZ.bare {w:World} (htb:∀ g,sh.tb g=none):∃ l φ,qZ w l φ 0/\l6 sh (Hw l) (bn l):=
 ⟨[],fun _=>(0,0),⟨by decide,fun x hx=>by cases hx⟩,fun g T _ hT=>by rw [htb] at hT;cases hT⟩
theorem SJ (hsp:jt P (cH hint)) (hng:jv P=true) (hm:P.follows .mixedOrders=true) {it:bw} {n:Nat} (hal:nx (hint jf) it.f=none) (hok:aI P hint sh it n) {x:ak it.pa} {y:ak it.re} (hF:it.F n x=some y)
  (hy:∀ {Γ:bc} {Pu:Nat->Prop} {I:IH} {v:Value},GR Γ Pu I (jI (fD it.re y)) v->v= .bool true)
  {l:List GV} {φ:Nat->Nat×Nat} {m:Nat} {w:World} (hS:qZ w l φ m) (ht:l6 sh (Hw l) (bn l))
  {vs:List Value} (hd:uD (Hw l) (bn l) it.pa x vs) {args:Array Value} (hv:cy (bU φ m) w vs args.toList):
  Calls P it.f args w fun e w'=>e= .returned (.bool true)/\Below w.heap.size w w':=by
 obtain ⟨Pu1,I1,v,r1,r2,_⟩:=hok.run hF (Mo (P:=P) (hint:=hint) hS.lt Hw.pu ht) hd;have hb:=hy (r2 B1);subst hb;have hc:(ev P hint (cH hint) (n+it.D+1)).call it.f vs (bn l)=some (.returned (.bool true),I1):=by
  show dm P hint (cH hint) (ev P hint (cH hint) (n+it.D)) it.f vs (bn l)=_
  simp only [dm,cH,hal];exact r1
 have:=(Et hng (Ls hm hng) (hsp) (n+it.D+1)).1.call hc (NL hS.Za hS.each) hv;refine (callsIn_wide.1 this).mono ?_;rintro e1 w1 ⟨Γ1,he,_,hE⟩;cases he with
 |returned hv=>rw [hv.Bj];exact ⟨rfl,I8 hS.lt hE⟩
def sC (P:Program) (k f g:Nat):Prop:=(∃ fn c,P.funcs[f]? =some fn/\fn.body=some c)/\∀ {args:List Value} {I:IH} {v:Value},jK k g args I=some v->∀ {Γ:Ga} {w:World} {args':Array Value},Rh Γ I w->cy Γ w args args'.toList->CallsIn Fence.wide 0 P f args' w (Al Γ I w (.returned v) I)
def pf (P:Program):List Nat->Prop
 |k::f::g::r=>sC P k f g/\pf P r
 |_=>True
theorem Q1 (h:pf P (hint jf)):jt P (cH hint):=by
 intro f args I e I' hs;unfold cH at hs;split at hs
 ·rename_i k g hf
  unfold LU at hs;rw [Option.map_eq_some_iff] at hs;obtain ⟨v,hv,he⟩:=hs;cases he;have key:∀ l,pf P l->nx l f=some (k,g)->sC P k f g:=by
   intro l
   induction l using pf.induct with
   |case1 k1 f1 g1 r ih=>
    intro h1 h2;unfold nx at h2;cases hb:Nat.beq f f1 with
    |true=>
     rw [hb] at h2;cases h2;have:=Nat.eq_of_beq_eq_true hb;subst this;exact h1.1
    |false=>rw [hb] at h2;exact ih h1.2 h2
   |case2 l hl=>
    intro _ h2;unfold nx at h2;split at h2
    ·exact absurd rfl (hl _ _ _ _)
    ·cases h2
  have h1:=key _ h hf;exact ⟨h1.1,fun hR ha=>h1.2 hv hR ha⟩
 ·cases hs
theorem M9 {f g:Nat} (hs:jt P (jV f)):sC P 0 f g:=by
 have hb:Nat.beq f f=true:=Nat.beq_refl f;refine ⟨(hs (f:=f) (args:= []) (H:=bn []) (by simp only [jV,hb];rfl)).1,fun {args I v} hv {Γ w args'} hR ha=>?_⟩;unfold jK at hv;split at hv
 ·cases hv
  exact (hs (f:=f) (args:= []) (H:=I) (by simp only [jV,hb];rfl)).2 hR ha
 ·exact absurd ‹(0:Nat)=1› (by decide)
 ·exact absurd ‹(0:Nat)=2› (by decide)
 ·exact absurd ‹(0:Nat)=3› (by decide)
 ·cases hv
theorem xU {f:Nat} {args':Array Value} {w:World} {Γ:Ga} {I:IH} {v v':Value} (hR:Rh Γ I w) (hv:∀ w',VR Γ w' v v') (h:Calls P f args' w fun e w'=>e= .returned v'/\Below w.heap.size w w'):
  CallsIn Fence.wide 0 P f args' w (Al Γ I w (.returned v) I):=by
 refine (callsIn_wide.2 h).mono ?_;rintro e w1 ⟨rfl,hb⟩;have cB:∀ b,b<w.heap.size->w1.heap[b]? =w.heap[b]? :=hb.block;have hS:eN w w1:=fun b cs e f h=>⟨cs,f,(cB b (Array.getElem?_eq_some_iff.1 h).1).trans h,rfl⟩
 refine ⟨Γ,.returned (hv w1),⟨hR.bj,hR.ro,hR.cC,hR.live,hR.inj,fun b o hb'=>(hR.obj b o hb').mono (.refl Γ) hS (hR.live b o hb') (cB _ (hR.lt hb'))⟩,?_⟩;exact ⟨zai _,fun _ _=>rfl,fun i=>⟨.inl,fun x=>x.elim id fun x=>by omega⟩,hb.size,hb.os,hb.tape,hb.output,hS,fun b hb' _=>cB b hb',fun _ _ x=>x,fun _ _ o x=>⟨o,x⟩⟩
theorem Co {w:World} {a:Addr} {i:Nat} {v:Value} (hs:a.spot=none) (h:w.cell? (a.add i)=some v):∃ cs e f,w.heap[a.block]? =some (.cells cs e f)/\cs[a.off+i]? =some v:=by
 have ha:a.add i=⟨a.block,a.off+i,none⟩:=by
  obtain ⟨b,o,s⟩:=a;simp only at hs;subst hs;unfold Addr.add;split
  ·rename_i h0;subst h0;rfl
  ·rfl
 rw [ha] at h;unfold World.cell? at h;simp only at h;split at h
 ·rename_i cs e f hb
  exact ⟨cs,e,f,hb,by simpa using h⟩
 ·cases h
theorem qZ.list {w:World} {l:List GV} {φ:Nat->Nat×Nat} {m:Nat} (hS:qZ w l φ m) (hm:bQ+m<dJ) {a:Addr} {len cap row cells:Nat} {vals:List Value} (hlen:vals.length=cap) (hlc:len<=cap) (hfree:vals.all aV=true) (hs:a.spot=none) (hsh:w.shape? a.block=some (row,cells))
  (hcell:∀ i v,vals[i]? =some v->w.cell? (a.add i)=some v):
  ∃ l' φ' et,qZ w l' φ' (m+1)/\j8 l φ m l' φ' (m+1)/\(bn l').get (bQ+m)=some (.cells vals et 0 false false)/\VR (bU φ' (m+1)) w (.slice (some ⟨bQ+m,0,none⟩) len (eD+1)) (.slice (some a) len cap):=by
 have hblk:∃ cs et f,w.heap[a.block]? =some (.cells cs et f):=by
  unfold World.shape? at hsh;split at hsh
  ·rename_i cs e f hb;exact ⟨cs,e,f,hb⟩
  ·cases hsh
 obtain ⟨cs,et,f,hb⟩:=hblk;have hdom:∀ φ',(bU φ' (m+1)).bj (bQ+m):=fun φ'=>by show bQ+m<bQ+(m+1);omega
 rcases Nat.eq_zero_or_pos cap with h0 |h0
 ·subst h0
  have hv:vals= []:=List.length_eq_zero_iff.1 hlen;subst hv;have hl0:len=0:=by omega
  subst hl0;obtain ⟨r1,r2,r3,r4⟩:=hS.add hm (a.block,0) et [] ⟨cs,f,hb,by simp,fun i v hv=>by simp at hv⟩;exact ⟨_,_,et,r1,r2,r4,.dS (hdom _) (zai _) (.inl ⟨rfl,rfl,by rw [r3]⟩)⟩
 ·have each:∀ i v,vals[i]? =some v->cs[a.off+i]? =some v:=by
   intro i v hv;obtain ⟨cs',e',f',hb',h'⟩:=Co hs (hcell i v hv);cases hb.symm.trans hb';exact h'
  have hroom:a.off+cap<=cs.size:=by
   have hlast:∃ v,vals[cap - 1]? =some v:=⟨_,zaj (by omega)⟩;obtain ⟨v,hv⟩:=hlast;have:=each _ _ hv;have:=(Array.getElem?_eq_some_iff.1 this).1;omega
  obtain ⟨r1,r2,r3,r4⟩:=hS.add hm (a.block,a.off) et vals ⟨cs,f,hb,by simp only [hlen];exact hroom,fun i v hv=>⟨v,each i v hv,.cp (List.all_eq_true.1 hfree v (List.mem_of_getElem? hv))⟩⟩;refine ⟨_,_,et,r1,r2,r4,.dS (hdom _) hlc (.inr ⟨?_,cs,et,f,hb,by simpa using hroom⟩)⟩;obtain ⟨b,o,s⟩:=a;simp only at hs;subst hs;simp only [Ga.at,r3,Nat.add_zero]
end Go.Gv
namespace Go.Gv
open Go Go.Iv Go.RowKit Go.ChangeShapes Go.WideShapes
variable {P:Program} {hint:Hint} {sh:cw} {H:Type} {enc:TypeId×Value->H}
end Go.Gv
namespace Go.Gv
open Go
end Go.Gv
