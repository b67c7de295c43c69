/- From a row's world to the pure functions: the first heap with a list of the caller's in it, the whole law. -/
import Derived.Test.YteknbnkjelmfaaaGreatDoorIvRow
import Derived.ChangeSlices
import Derived.Carry
set_option linter.unusedSimpArgs false
set_option linter.unusedVariables false
namespace Go.Gv
open Go Go.Iv Go.RowKit
variable {P:Program} {hint:Hint} {sh:bU}
def bB (φ:Nat->Nat×Nat) (m:Nat):Ga:=⟨fun i=>if i<bI then (i,0) else φ i,fun i=>i<bI+m⟩
def tV (w:World) (Γ:Ga) (x:GV):Prop:=∃ cs f,w.heap[(Γ.φ x.1).1]? =some (.cells cs x.2.1 f)/\(Γ.φ x.1).2+x.2.2.length<=cs.size/\(x.1<bI->(Γ.φ x.1).2=0/\cs.size=x.2.2.length)/\
 ∀ (i:Nat) (v:Value),x.2.2[i]? =some v->∃ v',cs[(Γ.φ x.1).2+i]? =some v'/\VR Γ w v v'
theorem tV.mono {w:World} {Γ Γ':Ga} {x:GV} (h:tV w Γ x) (hg:Γ.le Γ') (hd:Γ.aT x.1):tV w Γ' x:=by
 obtain ⟨cs,f,h1,h2,h3,h4⟩:=h;have e:=hg.φ x.1 hd;refine ⟨cs,f,by rw [e];exact h1,by rw [e];exact h2,by rw [e];exact h3,fun i v hv=>?_⟩;obtain ⟨v',h5,h6⟩:=h4 i v hv;exact ⟨v',by rw [e];exact h5,h6.mono hg (.refl _)⟩
theorem eX {l:List GV} {b:Nat} {o:bN} (h:(bp l).get b=some o):∃ x∈l,x.1=b/\o= .cells x.2.2 x.2.1 0 (Nat.blt x.1 bI) false:=
 Ek (by rw [←h,IH.get_eq];rfl)
theorem Iw {w:World} {l:List GV} {φ:Nat->Nat×Nat} {m:Nat} (hm:bI+m<=ep) (hl:∀ x∈l,x.1<bI+m/\tV w (bB φ m) x):Rh (bB φ m) (bp l) w:=by
 refine ⟨fun b hb=>Nat.lt_of_lt_of_le hb hm,zal _,fun g hg=>⟨Nat.lt_of_lt_of_le hg (Nat.le_add_right _ _),by show (if g<bI then (g,0) else φ g)=(g,0);rw [if_pos hg]⟩,fun b o h=>?_,fun b b' o o' hro h _ _=>?_,fun b o h=>?_⟩
 .obtain ⟨x,hx,rfl,_⟩:=eX h;exact (hl x hx).1
 .obtain ⟨x,hx,rfl,_⟩:=eX h
  grind
 .obtain ⟨x,hx,rfl,rfl⟩:=eX h
  obtain ⟨h1,cs,⟨lo,hi'⟩,h3,h4,h6,h5⟩:=hl x hx;refine ⟨cs,lo,hi',h3,h4,fun i v hv=>h5 i v hv,fun hx=>h6 (Nat.le_of_ble_eq_true hx),fun hro=>?_,fun x=>(by cases x)⟩;omega
theorem DK {w w':World} {l:List GV} {φ:Nat->Nat×Nat} {m:Nat} {Γ':Ga} {H':IH} (hl:∀ x∈l,x.1<ep) (h:Iv.Ext (bB φ m) (bp l) w Γ' H' w'):Below w.heap.size w w':=by
 refine ⟨h.os,h.tape,h.output,h.size,fun k hk=>h.cE k hk ?_⟩;rintro ⟨i,o,hro,hi,_⟩;obtain ⟨x,hx,rfl,_⟩:=eX hi
 grind
def Al:aN:=fun g=>if g<bI then some ⟨some (g,0),0,1,0⟩ else none
def lP (sh:bU) (Pu:Nat->Prop) (I:IH):Prop:=∀ g T,g<bI->sh.tb g=some T->Pu g/\∃ vs et fz ex sd,I.get g=some (.cells vs et fz ex sd)/\ex=true/\vs.length=List.length T.xs*T.e.sz/\
 ∀ i x,T.xs[i]? =some x->i*T.e.sz+T.e.sz<=vs.length/\bA Pu I T.e x ((vs.drop (i*T.e.sz)).take T.e.sz)
theorem Ie {l:List GV} {Pu:Nat->Prop} (hl:∀ x∈l,x.1<ep) (hp:∀ b,Pu b->∃ cs et fz ex sd,(bp l).get b=some (.cells cs et fz ex sd)) (ht:lP sh Pu (bp l)):au P hint sh Al Pu H0 (bp l) where
 obj:=fun id o h=>by rw [nU] at h;cases h
 inj:=fun id id' o o' l l' b h=>by rw [nU] at h;cases h
 sep:=fun b ⟨id,o,l,h,_⟩=>by rw [nU] at h;cases h
 aT:=fun id l h=>by
  unfold Al at h;split at h
  .rename_i hg;exact Nat.lt_trans hg (by decide)
  .cases h
 fresh:=fun b hb=>by
  cases h:(bp l).get b with
  |none=>rfl
  |some o=>
   obtain ⟨x,hx,rfl,_⟩:=eX h;have h1:ep<=x.1:=hb
   grind
 pu:=hp
 ro:=zal _
 gn:=by decide
 cq:=fun g hg=>⟨_,by unfold Al;rw [if_pos hg],rfl⟩
 st:=fun id s h=>by cases h
 FT:=ht
structure qo (W:World) (l:List GV) (φ:Nat->Nat×Nat) (m:Nat):Prop where
 U1:bI+m<=ep
 each:∀ x∈l,x.1<bI+m/\tV W (bB φ m) x
def Dr (l:List GV):Nat->Prop:=fun b=>∃ o,(bp l).get b=some o
theorem qo.lt {W:World} {l:List GV} {φ:Nat->Nat×Nat} {m:Nat} (h:qo W l φ m):∀ x∈l,x.1<ep:=fun x hx=>Nat.lt_of_lt_of_le (h.each x hx).1 h.U1
theorem Dr.pu {l:List GV} (b:Nat) (h:Dr l b):∃ cs et fz ex sd,(bp l).get b=some (.cells cs et fz ex sd):=by
 obtain ⟨o,h⟩:=h;obtain ⟨x,_,_,rfl⟩:=eX h
 grind
structure jJ (l:List GV) (φ:Nat->Nat×Nat) (m:Nat) (l':List GV) (φ':Nat->Nat×Nat) (m':Nat):Prop where
 g:(bB φ m).le (bB φ' m')
 h:∀ b o,(bp l).get b=some o->(bp l').get b=some o
theorem jJ.refl (l:List GV) (φ:Nat->Nat×Nat) (m:Nat):jJ l φ m l φ m:=⟨.refl _,fun _ _ h=>h⟩
theorem jJ.enc {l l':List GV} {φ φ':Nat->Nat×Nat} {m m':Nat} (h:jJ l φ m l' φ' m') {s:Sh} {x:s.ty} {vs:List Value} (he:bA (Dr l) (bp l) s x vs):bA (Dr l') (bp l') s x vs:=
 he.mono (fun b ⟨o,hb⟩=>⟨o,h.h b o hb⟩) (fun b ⟨o,hb⟩=>(h.h b o hb).trans hb.symm)
theorem jJ.vr {l l':List GV} {φ φ':Nat->Nat×Nat} {m m':Nat} (h:jJ l φ m l' φ' m') {W:World} {v v':Value} (hv:VR (bB φ m) W v v'):VR (bB φ' m') W v v':=hv.mono h.g (.refl _)
theorem jJ.Uv {l l':List GV} {φ φ':Nat->Nat×Nat} {m m':Nat} (h:jJ l φ m l' φ' m') (ht:lP sh (Dr l) (bp l)):lP sh (Dr l') (bp l'):=fun g T hg hT=>by
 obtain ⟨⟨o,h1⟩,vs,et,fz,ex,sd,h2,h4,h5,h3⟩:=ht g T hg hT;exact ⟨⟨o,h.h g o h1⟩,vs,et,fz,ex,sd,h.h g _ h2,h4,h5,fun i x hx=>⟨(h3 i x hx).1,h.enc (h3 i x hx).2⟩⟩
def Ou (φ:Nat->Nat×Nat) (m:Nat) (p:Nat×Nat):Nat->Nat×Nat:=fun i=>if i=bI+m then p else φ i
theorem ON {φ:Nat->Nat×Nat} {m:Nat} {p:Nat×Nat} {i:Nat} (hi:i<bI+m):(bB (Ou φ m p) (m+1)).φ i=(bB φ m).φ i:=by
 show (if i<bI then (i,0) else if i=bI+m then p else φ i)=(if i<bI then (i,0) else φ i)
 grind
theorem pA {φ:Nat->Nat×Nat} {m:Nat} {p:Nat×Nat}:(bB (Ou φ m p) (m+1)).φ (bI+m)=p:=by
 show (if bI+m<bI then (bI+m,0) else if bI+m=bI+m then p else φ (bI+m))=p
 grind
theorem vZ {φ:Nat->Nat×Nat} {m:Nat} {p:Nat×Nat}:(bB φ m).le (bB (Ou φ m p) (m+1)):=
 ⟨fun i hi=>by
  have:i<bI+m:=hi
  show i<bI+(m+1)
  omega,fun i hi=>ON hi⟩
theorem qo.room {W:World} {l:List GV} {φ:Nat->Nat×Nat} {m:Nat} (h:qo W l φ m) (hm:bI+m<ep) (p:Nat×Nat):
  qo W l (Ou φ m p) (m+1)/\jJ l φ m l (Ou φ m p) (m+1):=
 ⟨⟨by omega,fun x hx=>by
  obtain ⟨h1,h2⟩:=h.each x hx;exact ⟨by omega,h2.mono vZ h1⟩⟩,⟨vZ,fun _ _ h=>h⟩⟩
theorem qo.add {W:World} {l:List GV} {φ:Nat->Nat×Nat} {m:Nat} (h:qo W l φ m) (hm:bI+m<ep) (p:Nat×Nat) (et:TypeId) (vals:List Value)
  (hh:∃ cs f,W.heap[p.1]? =some (.cells cs et f)/\p.2+vals.length<=cs.size/\∀ (i:Nat) (v:Value),vals[i]? =some v->∃ v',cs[p.2+i]? =some v'/\VR (bB φ m) W v v'):
  qo W ((bI+m,et,vals)::l) (Ou φ m p) (m+1)/\jJ l φ m ((bI+m,et,vals)::l) (Ou φ m p) (m+1)/\
   (bB (Ou φ m p) (m+1)).φ (bI+m)=p/\(bp ((bI+m,et,vals)::l)).get (bI+m)=some (.cells vals et 0 false false):=by
 have hget:∀ b,(bp ((bI+m,et,vals)::l)).get b=if b=bI+m then some (.cells vals et 0 false false) else (bp l).get b:=fun b=>by
  rw [IH.get_eq,IH.get_eq];have hlt:Nat.blt (bI+m) bI=false:=by
   cases h:Nat.blt (bI+m) bI with
   |false=>rfl
   |true=>have:=Nat.le_of_ble_eq_true h;omega
  show ((qR l).put (kx (bI+m)) (some (.cells vals et 0 (Nat.blt (bI+m) bI) false))).get (kx b)=_
  rw [Tr.ag,xB,hlt];rfl
 refine ⟨⟨by omega,fun x hx=>?_⟩,⟨vZ,fun b o hb=>?_⟩,pA,by grind⟩
 .rcases List.mem_cons.1 hx with rfl |hx
  .refine ⟨by omega,?_⟩
   obtain ⟨cs,f,h1,h2,h3⟩:=hh;refine ⟨cs,f,by rw [pA];exact h1,by rw [pA];exact h2,fun h=>by omega,fun i v hv=>?_⟩;obtain ⟨v',h4,h5⟩:=h3 i v hv;exact ⟨v',by rw [pA];exact h4,h5.mono vZ (.refl _)⟩
  .obtain ⟨h1,h2⟩:=h.each x hx
   exact ⟨by omega,h2.mono vZ h1⟩
 .rw [hget,if_neg]
  .exact hb
  .rintro rfl
   obtain ⟨x,hx,h1,_⟩:=eX hb;have:=(h.each x hx).1;omega
def uB:(s:Sh)->s.ty->Option (List Value)
 | .int k,n=>some [.int k n]
 | .byte,c=>some [.int .u8 c.toNat]
 | .bool,b=>some [.bool b]
 | .str,s=>some [.string (ba s)]
 | .cons a b,x=>match uB a x.1,uB b x.2 with
  |some u,some w=>some (u++w)
  |_,_=>none
 | .bH _,_=>none
theorem vA {Pu:Nat->Prop} {I:IH}:∀ {s:Sh} {x:s.ty} {vs:List Value},uB s x=some vs->bA Pu I s x vs:=by
 intro s
 induction s with
 |int k=>intro x vs h;cases h;unfold bA;rfl
 |byte=>intro x vs h;cases h;unfold bA;rfl
 |bool=>intro x vs h;cases h;unfold bA;rfl
 |str=>intro x vs h;cases h;unfold bA;rfl
 |cons a b iha ihb=>
  intro x vs h;unfold uB at h;split at h
  .rename_i u w h1 h2
   cases h;unfold bA
   grind
  .cases h
 |bH e _=>intro x vs h;cases h
def eC (s:Sh):List s.ty->Option (List Value)
 | []=>some []
 |x::r=>match uB s x,eC s r with
  |some u,some w=>some (u++w)
  |_,_=>none
theorem BV {Pu:Nat->Prop} {I:IH} {s:Sh}:∀ {xs:List s.ty} {vs:List Value},eC s xs=some vs->∀ i x,xs[i]? =some x->i*s.sz+s.sz<=vs.length/\bA Pu I s x ((vs.drop (i*s.sz)).take s.sz):=by
 intro xs
 induction xs with
 |nil=>grind
 |cons y r ih=>
  intro vs h i x hx;unfold eC at h;split at h
  .rename_i u w h1 h2
   cases h;have henc:=vA (Pu:=Pu) (I:=I) h1;have hlen:=henc.len;cases i with
   |zero=>
    grind
   |succ i=>
    rw [List.getElem?_cons_succ] at hx;obtain ⟨h3,h4⟩:=ih h2 i x hx;have e:(i+1)*s.sz=u.length+i*s.sz:=by rw [hlen,zaj];omega
    refine ⟨by grind,?_⟩;rw [e,←zak,List.drop_left']
    .exact h4
    .rfl
  .cases h
theorem yP {s:Sh}:∀ {xs:List s.ty} {vs:List Value},eC s xs=some vs->vs.length=List.length xs*s.sz:=by
 intro xs
 induction xs with
 |nil=>intro vs h;cases h;simp
 |cons y r ih=>
  intro vs h;unfold eC at h;split at h
  .rename_i u w h1 h2
   cases h;have:=(vA (Pu:=fun _=>True) (I:=bp []) h1).len
   grind
  .cases h
def Ck:List (Nat×Tb)->List (Nat×List Value)
 | []=> []
 |(g,T)::r=>(g,(eC T.e T.xs).getD [])::Ck r
def Av:List (Nat×Tb)->Bool
 | []=>true
 |(_,T)::r=>(eC T.e T.xs).isSome &&Av r
theorem OJ {E:Nat->TypeId}:∀ {L:List (Nat×Tb)},Av L=true->∀ g T,NJ L g=some T->∃ vs,eC T.e T.xs=some vs/\(bp (Ss (Ck L) E)).get g=some (.cells vs (E g) 0 (Nat.blt g bI) false):=by
 intro L
 induction L with
 |nil=>intro _ g T h;cases h
 |cons p r ih=>
  obtain ⟨g0,T0⟩:=p;intro hg g T h;unfold Av at hg;simp only [zae] at hg;have hget:(bp (Ss (Ck ((g0,T0)::r)) E)).get g=if g=g0 then some (.cells ((eC T0.e T0.xs).getD []) (E g0) 0 (Nat.blt g0 bI) false) else (bp (Ss (Ck r) E)).get g:=by
   rw [IH.get_eq,IH.get_eq]
   show ((qR (Ss (Ck r) E)).put (kx g0) (some (.cells ((eC T0.e T0.xs).getD []) (E g0) 0 (Nat.blt g0 bI) false))).get (kx g)=_
   rw [Tr.ag,xB];rfl
  unfold NJ at h;cases hb:Nat.beq g0 g with
  |true=>
   rw [hb] at h;cases h;have:=Nat.eq_of_beq_eq_true hb;subst this;obtain ⟨vs,hv⟩:=Option.isSome_iff_exists.1 hg.1
   grind
  |false=>
   rw [hb] at h;have hne:¬ g=g0:=by rintro rfl;rw [Nat.beq_refl] at hb;cases hb
   grind
theorem qo.tables {fuel:Nat} {w:World} {laid:List (String×DataW Unit)} {L:List (Nat×Tb)} (hn:(laid.filter fun x=>x.2.handleName?.isSome)= []) (hl:laidMetH P laid w) (hg:∀ x∈Ck L,x∈qb P fuel laid) (hok:Av L=true) (htb:sh.tb=NJ L):
  ∃ l φ,qo w l φ 0/\lP sh (Dr l) (bp l):=by
 obtain ⟨ps,hps⟩:=Hv hn hl;refine ⟨Ss (Ck L) (elemAt w),fun _=>(0,0),⟨by decide,fun x hx=>?_⟩,fun g T hg2 hT=>?_⟩
 .obtain ⟨y,hy,rfl⟩:=List.mem_map.1 hx
  obtain ⟨h1,h2,cs,f,h3,h4,h5⟩:=wy (f:=fuel) laid ps hps _ (List.mem_map.2 ⟨y,hg y hy,rfl⟩);have e:(bB (fun _=>(0,0)) 0).φ y.1=(y.1,0):=by
   show (if y.1<bI then (y.1,0) else (0,0))=_
   rw [if_pos h1]
  exact ⟨h1,cs,f,by rw [e];exact h3,by grind,fun _=>by grind,fun i v hv=>⟨v,by grind,.bW (List.all_eq_true.1 h2 v (List.mem_of_getElem? hv))⟩⟩
 .rw [htb] at hT
  obtain ⟨vs,h1,h2⟩:=OJ (E:=elemAt w) hok g T hT;exact ⟨⟨_,h2⟩,vs,_,_,_,_,h2,Nat.ble_eq_true_of_le hg2,yP h1,BV h1⟩
theorem qo.bare {w:World} (htb:∀ g,sh.tb g=none):∃ l φ,qo w l φ 0/\lP sh (Dr l) (bp l):=
 ⟨[],fun _=>(0,0),⟨by decide,fun x hx=>by cases hx⟩,fun g T _ hT=>by grind⟩
theorem PK (hsp:qp P (cj hint)) (hng:lr P=true) (hm:P.follows .mixedOrders=true) {it:fH} {n:Nat} (hal:nj (hint jc) it.f=none) (hok:ig P hint sh it n) {x:aw it.pa} {y:aw it.re} (hF:it.F n x=some y)
  (hy:∀ {Γ:aN} {Pu:Nat->Prop} {I:IH} {v:Value},GR Γ Pu I (jk (dC it.re y)) v->v= .bool true)
  {l:List GV} {φ:Nat->Nat×Nat} {m:Nat} {w:World} (hS:qo w l φ m) (ht:lP sh (Dr l) (bp l))
  {vs:List Value} (hd:sN (Dr l) (bp l) it.pa x vs) {args:Array Value} (hv:bX (bB φ m) w vs args.toList):
  Calls P it.f args w fun e w'=>e= .returned (.bool true)/\Below w.heap.size w w':=by
 obtain ⟨Pu1,I1,v,r1,r2,_⟩:=hok.run hF (Ie (P:=P) (hint:=hint) hS.lt Dr.pu ht) hd;have hb:=hy (r2 Al);subst hb;have hc:(ev P hint (cj hint) (n+it.D+1)).call it.f vs (bp l)=some (.returned (.bool true),I1):=by
  show dQ P hint (cj hint) (ev P hint (cj hint) (n+it.D)) it.f vs (bp l)=_
  simp only [dQ,cj,hal];exact r1
 have:=(LV hng (Qu hm hng) (hsp) (n+it.D+1)).1.call hc (Iw hS.U1 hS.each) hv;refine (callsIn_wide.1 this).mono ?_;rintro e1 w1 ⟨Γ1,he,_,hE⟩;cases he with
 |returned hv=>rw [hv.BY];exact ⟨rfl,DK hS.lt hE⟩
def si (P:Program) (k f g:Nat):Prop:=(∃ fn c,P.funcs[f]? =some fn/\fn.body=some c)/\∀ {args:List Value} {I:IH} {v:Value},jF k g args I=some v->∀ {Γ:Ga} {w:World} {args':Array Value},Rh Γ I w->bX Γ w args args'.toList->CallsIn Fence.wide 0 P f args' w (xg Γ I w (.returned v) I)
def qi (P:Program):List Nat->Prop
 |k::f::g::r=>si P k f g/\qi P r
 |_=>True
theorem LW (h:qi P (hint jc)):qp P (cj hint):=by
 intro f args I e I' hs;unfold cj at hs;split at hs
 .rename_i k g hf
  unfold G9 at hs;rw [Option.map_eq_some_iff] at hs;obtain ⟨v,hv,he⟩:=hs;cases he;have key:∀ l,qi P l->nj l f=some (k,g)->si P k f g:=by
   intro l
   induction l using qi.induct with
   |case1 k1 f1 g1 r ih=>
    intro h1 h2;unfold nj at h2;cases hb:Nat.beq f f1 with
    |true=>
     rw [hb] at h2;cases h2;have:=Nat.eq_of_beq_eq_true hb;subst this;exact h1.1
    |false=>rw [hb] at h2;exact ih h1.2 h2
   |case2 l hl=>
    intro _ h2;unfold nj at h2
    grind
  have h1:=key _ h hf;exact ⟨h1.1,fun hR ha=>h1.2 hv hR ha⟩
 .cases hs
theorem og {f:Nat} {args':Array Value} {w:World} {Γ:Ga} {I:IH} {v v':Value} (hR:Rh Γ I w) (hv:∀ w',VR Γ w' v v') (h:Calls P f args' w fun e w'=>e= .returned v'/\Below w.heap.size w w'):
  CallsIn Fence.wide 0 P f args' w (xg Γ I w (.returned v) I):=by
 refine (callsIn_wide.2 h).mono ?_;rintro e w1 ⟨rfl,hb⟩;have cE:∀ b,b<w.heap.size->w1.heap[b]? =w.heap[b]? :=hb.block;have hS:eD w w1:=fun b cs e f h=>⟨cs,f,(cE b (Array.getElem?_eq_some_iff.1 h).1).trans h,rfl⟩
 refine ⟨Γ,.returned (hv w1),⟨hR.aT,hR.ro,hR.cq,hR.live,hR.inj,fun b o hb'=>(hR.obj b o hb').mono (.refl Γ) hS (hR.live b o hb') (cE _ (hR.lt hb'))⟩,?_⟩;exact ⟨zal _,fun _ _=>rfl,fun i=>⟨.inl,fun x=>x.elim id fun x=>by omega⟩,hb.size,hb.os,hb.tape,hb.output,hS,fun b hb' _=>cE b hb',fun _ _ x=>x,fun _ _ o x=>⟨o,x⟩⟩
theorem yJ {w:World} {a:Addr} {i:Nat} {v:Value} (hs:a.spot=none) (h:w.cell? (a.add i)=some v):∃ cs e f,w.heap[a.block]? =some (.cells cs e f)/\cs[a.off+i]? =some v:=by
 have ha:a.add i=⟨a.block,a.off+i,none⟩:=by
  obtain ⟨b,o,s⟩:=a;simp only at hs;subst hs;unfold Addr.add;split
  .rename_i h0;subst h0;rfl
  .rfl
 rw [ha] at h;unfold World.cell? at h
 grind
theorem qo.list {w:World} {l:List GV} {φ:Nat->Nat×Nat} {m:Nat} (hS:qo w l φ m) (hm:bI+m<ep) {a:Addr} {len cap row cells:Nat} {vals:List Value} (hlen:vals.length=cap) (hlc:len<=cap) (hfree:vals.all aU=true) (hs:a.spot=none) (hsh:w.shape? a.block=some (row,cells))
  (hcell:∀ i v,vals[i]? =some v->w.cell? (a.add i)=some v):
  ∃ l' φ' et,qo w l' φ' (m+1)/\jJ l φ m l' φ' (m+1)/\(bp l').get (bI+m)=some (.cells vals et 0 false false)/\VR (bB φ' (m+1)) w (.slice (some ⟨bI+m,0,none⟩) len (ff+1)) (.slice (some a) len cap):=by
 have hblk:∃ cs et f,w.heap[a.block]? =some (.cells cs et f):=by
  unfold World.shape? at hsh;split at hsh
  .grind
  .cases hsh
 obtain ⟨cs,et,f,hb⟩:=hblk;have hdom:∀ φ',(bB φ' (m+1)).aT (bI+m):=fun φ'=>by show bI+m<bI+(m+1);omega
 rcases Nat.eq_zero_or_pos cap with h0 |h0
 .subst h0
  have hv:vals= []:=List.length_eq_zero_iff.1 hlen;subst hv;have hl0:len=0:=by omega
  subst hl0;obtain ⟨r1,r2,r3,r4⟩:=hS.add hm (a.block,0) et [] ⟨cs,f,hb,by simp,fun i v hv=>by simp at hv⟩;exact ⟨_,_,et,r1,r2,r4,.dK (hdom _) (zal _) (.inl ⟨rfl,rfl,by rw [r3]⟩)⟩
 .have each:∀ i v,vals[i]? =some v->cs[a.off+i]? =some v:=by
   intro i v hv;obtain ⟨cs',e',f',hb',h'⟩:=yJ hs (hcell i v hv);cases hb.symm.trans hb';exact h'
  have hroom:a.off+cap<=cs.size:=by
   have hlast:∃ v,vals[cap - 1]? =some v:=⟨_,zam (by omega)⟩;obtain ⟨v,hv⟩:=hlast;have:=each _ _ hv;have:=(Array.getElem?_eq_some_iff.1 this).1;omega
  obtain ⟨r1,r2,r3,r4⟩:=hS.add hm (a.block,a.off) et vals ⟨cs,f,hb,by omega,fun i v hv=>⟨v,each i v hv,.bW (List.all_eq_true.1 hfree v (List.mem_of_getElem? hv))⟩⟩;refine ⟨_,_,et,r1,r2,r4,.dK (hdom _) hlc (.inr ⟨?_,cs,et,f,hb,by simpa using hroom⟩)⟩;obtain ⟨b,o,s⟩:=a;simp only at hs;subst hs;simp only [Ga.at,r3,Nat.add_zero]
end Go.Gv
namespace Go.Gv
open Go Go.Iv Go.RowKit Go.ChangeShapes Go.WideShapes
variable {P:Program} {hint:Hint} {sh:bU} {H:Type} {enc:TypeId×Value->H}
end Go.Gv
namespace Go.Gv
open Go
end Go.Gv
