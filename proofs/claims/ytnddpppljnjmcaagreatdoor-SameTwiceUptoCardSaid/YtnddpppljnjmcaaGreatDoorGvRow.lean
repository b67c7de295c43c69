/- From a row's world to the pure functions: the first heap with a list of the caller's in it, the whole law. -/
import Derived.Test.YtnddpppljnjmcaaGreatDoorGvLoop
import Derived.Test.YtnddpppljnjmcaaGreatDoorIvRow
import Derived.ChangeSlices
import Derived.Carry
set_option linter.unusedSimpArgs false
set_option linter.unusedVariables false
namespace Go.Gv
open Go Go.Iv Go.RowKit
variable {P:Program} {hint:Hint} {sh:ShT}
def startG2 (φ:Nat→Nat×Nat) (m:Nat):Ga:= ⟨fun i=>if i<glN then (i,0) else φ i,fun i=>i<glN+m⟩
def Holds2 (w:World) (Γ:Ga) (x:GV):Prop:=∃ cs f,w.heap[(Γ.φ x.1).1]? =some (.cells cs x.2.1 f)∧(Γ.φ x.1).2+x.2.2.length≤cs.size∧(x.1<glN→(Γ.φ x.1).2=0∧cs.size=x.2.2.length)∧
 ∀ (i:Nat) (v:Value),x.2.2[i]? =some v→∃ v',cs[(Γ.φ x.1).2+i]? =some v'∧VR Γ w v v'
theorem Holds2.mono {w:World} {Γ Γ':Ga} {x:GV} (h:Holds2 w Γ x) (hg:Γ.le Γ') (hd:Γ.dom x.1):Holds2 w Γ' x:=by
 obtain ⟨cs,f,h1,h2,h3,h4⟩:=h
 have e:=hg.φ x.1 hd
 refine ⟨cs,f,by rw [e];exact h1,by rw [e];exact h2,by rw [e];exact h3,fun i v hv=>?_⟩
 obtain ⟨v',h5,h6⟩:=h4 i v hv
 exact ⟨v',by rw [e];exact h5,h6.mono hg (.refl _)⟩
theorem startH_get {l:List GV} {b:Nat} {o:IObj} (h:(startH l).get b=some o):∃ x∈l,x.1=b∧o= .cells x.2.2 x.2.1 0 (Nat.blt x.1 glN) false:=
 startT_get (by rw [←h,IH.get_eq];rfl)
theorem start_rh2 {w:World} {l:List GV} {φ:Nat→Nat×Nat} {m:Nat} (hm:glN+m≤roN) (hl:∀ x∈l,x.1<glN+m∧Holds2 w (startG2 φ m) x):Rh (startG2 φ m) (startH l) w:=by
 refine ⟨fun b hb=>Nat.lt_of_lt_of_le hb hm,Nat.le_refl _,fun g hg=> ⟨Nat.lt_of_lt_of_le hg (Nat.le_add_right _ _),by show (if g<glN then (g,0) else φ g)=(g,0);rw [if_pos hg]⟩,fun b o h=>?_,fun b b' o o' hro h _ _=>?_,fun b o h=>?_⟩
 ·obtain ⟨x,hx,rfl,_⟩:=startH_get h;exact (hl x hx).1
 ·obtain ⟨x,hx,rfl,_⟩:=startH_get h
  have:=(hl x hx).1
  omega
 ·obtain ⟨x,hx,rfl,rfl⟩:=startH_get h
  obtain ⟨h1,cs,⟨lo,hi'⟩,h3,h4,h6,h5⟩:=hl x hx
  refine ⟨cs,lo,hi',h3,h4,fun i v hv=>h5 i v hv,fun hx=>h6 (Nat.le_of_ble_eq_true hx),fun hro=>?_,fun x=>(by cases x)⟩
  omega
theorem start_ext2 {w w':World} {l:List GV} {φ:Nat→Nat×Nat} {m:Nat} {Γ':Ga} {H':IH} (hl:∀ x∈l,x.1<roN) (h:Iv.Ext (startG2 φ m) (startH l) w Γ' H' w'):Below w.heap.size w w':=by
 refine ⟨h.os,h.tape,h.output,h.size,fun k hk=>h.keep k hk ?_⟩
 rintro ⟨i,o,hro,hi,_⟩
 obtain ⟨x,hx,rfl,_⟩:=startH_get hi
 have h1:=hl x hx
 omega
def startΓ:Gam:=fun g=>if g<glN then some ⟨some (g,0),0,1,0⟩ else none
def TabsIn (sh:ShT) (Pu:Nat→Prop) (I:IH):Prop:=∀ g T,g<glN→sh.tb g=some T→Pu g∧∃ vs et fz ex sd,I.get g=some (.cells vs et fz ex sd)∧ex=true∧vs.length=List.length T.xs*T.e.sz∧
 ∀ i x,T.xs[i]? =some x→i*T.e.sz+T.e.sz≤vs.length∧Enc Pu I T.e x ((vs.drop (i*T.e.sz)).take T.e.sz)
theorem start_sim {l:List GV} {Pu:Nat→Prop} (hl:∀ x∈l,x.1<roN) (hp:∀ b,Pu b→∃ cs et fz ex sd,(startH l).get b=some (.cells cs et fz ex sd)) (ht:TabsIn sh Pu (startH l)):Sim P hint sh startΓ Pu H0 (startH l) where
 obj:=fun id o h=>by rw [H0_get] at h;cases h
 inj:=fun id id' o o' l l' b h=>by rw [H0_get] at h;cases h
 sep:=fun b ⟨id,o,l,h,_⟩=>by rw [H0_get] at h;cases h
 dom:=fun id l h=>by
  unfold startΓ at h
  split at h
  ·rename_i hg;exact Nat.lt_trans hg (by decide)
  ·cases h
 fresh:=fun b hb=>by
  cases h:(startH l).get b with
  |none=>rfl
  |some o=>
   obtain ⟨x,hx,rfl,_⟩:=startH_get h
   have h1:roN≤x.1:=hb
   have:=hl x hx
   omega
 pu:=hp
 ro:=Nat.le_refl _
 gn:=by decide
 glob:=fun g hg=> ⟨_,by unfold startΓ;rw [if_pos hg],rfl⟩
 st:=fun id s h=>by cases h
 tab:=ht
structure Fst (W:World) (l:List GV) (φ:Nat→Nat×Nat) (m:Nat):Prop where
 mle:glN+m≤roN
 each:∀ x∈l,x.1<glN+m∧Holds2 W (startG2 φ m) x
def PuL (l:List GV):Nat→Prop:=fun b=>∃ o,(startH l).get b=some o
theorem Fst.lt {W:World} {l:List GV} {φ:Nat→Nat×Nat} {m:Nat} (h:Fst W l φ m):∀ x∈l,x.1<roN:=fun x hx=>Nat.lt_of_lt_of_le (h.each x hx).1 h.mle
theorem PuL.pu {l:List GV} (b:Nat) (h:PuL l b):∃ cs et fz ex sd,(startH l).get b=some (.cells cs et fz ex sd):=by
 obtain ⟨o,h⟩:=h
 obtain ⟨x,_,_,rfl⟩:=startH_get h
 exact ⟨_,_,_,_,_,h⟩
structure StLe (l:List GV) (φ:Nat→Nat×Nat) (m:Nat) (l':List GV) (φ':Nat→Nat×Nat) (m':Nat):Prop where
 g:(startG2 φ m).le (startG2 φ' m')
 h:∀ b o,(startH l).get b=some o→(startH l').get b=some o
theorem StLe.refl (l:List GV) (φ:Nat→Nat×Nat) (m:Nat):StLe l φ m l φ m:= ⟨.refl _,fun _ _ h=>h⟩
theorem StLe.enc {l l':List GV} {φ φ':Nat→Nat×Nat} {m m':Nat} (h:StLe l φ m l' φ' m') {s:Sh} {x:s.ty} {vs:List Value} (he:Enc (PuL l) (startH l) s x vs):Enc (PuL l') (startH l') s x vs:=
 he.mono (fun b ⟨o,hb⟩=> ⟨o,h.h b o hb⟩) (fun b ⟨o,hb⟩=>(h.h b o hb).trans hb.symm)
theorem StLe.vr {l l':List GV} {φ φ':Nat→Nat×Nat} {m m':Nat} (h:StLe l φ m l' φ' m') {W:World} {v v':Value} (hv:VR (startG2 φ m) W v v'):VR (startG2 φ' m') W v v':=hv.mono h.g (.refl _)
theorem StLe.tabs {l l':List GV} {φ φ':Nat→Nat×Nat} {m m':Nat} (h:StLe l φ m l' φ' m') (ht:TabsIn sh (PuL l) (startH l)):TabsIn sh (PuL l') (startH l'):=fun g T hg hT=>by
 obtain ⟨⟨o,h1⟩,vs,et,fz,ex,sd,h2,h4,h5,h3⟩:=ht g T hg hT
 exact ⟨⟨o,h.h g o h1⟩,vs,et,fz,ex,sd,h.h g _ h2,h4,h5,fun i x hx=> ⟨(h3 i x hx).1,h.enc (h3 i x hx).2⟩⟩
def nxt (φ:Nat→Nat×Nat) (m:Nat) (p:Nat×Nat):Nat→Nat×Nat:=fun i=>if i=glN+m then p else φ i
theorem nxt_old {φ:Nat→Nat×Nat} {m:Nat} {p:Nat×Nat} {i:Nat} (hi:i<glN+m):(startG2 (nxt φ m p) (m+1)).φ i=(startG2 φ m).φ i:=by
 show (if i<glN then (i,0) else if i=glN+m then p else φ i)=(if i<glN then (i,0) else φ i)
 rw [if_neg (show ¬ i=glN+m by omega)]
theorem nxt_new {φ:Nat→Nat×Nat} {m:Nat} {p:Nat×Nat}:(startG2 (nxt φ m p) (m+1)).φ (glN+m)=p:=by
 show (if glN+m<glN then (glN+m,0) else if glN+m=glN+m then p else φ (glN+m))=p
 rw [if_neg (by omega),if_pos rfl]
theorem nxt_le {φ:Nat→Nat×Nat} {m:Nat} {p:Nat×Nat}:(startG2 φ m).le (startG2 (nxt φ m p) (m+1)):=
 ⟨fun i hi=>by
  have:i<glN+m:=hi
  show i<glN+(m+1)
  omega,fun i hi=>nxt_old hi⟩
theorem Fst.room {W:World} {l:List GV} {φ:Nat→Nat×Nat} {m:Nat} (h:Fst W l φ m) (hm:glN+m<roN) (p:Nat×Nat):
  Fst W l (nxt φ m p) (m+1)∧StLe l φ m l (nxt φ m p) (m+1):=
 ⟨⟨by omega,fun x hx=>by
  obtain ⟨h1,h2⟩:=h.each x hx
  exact ⟨by omega,h2.mono nxt_le h1⟩⟩,⟨nxt_le,fun _ _ h=>h⟩⟩
theorem Fst.add {W:World} {l:List GV} {φ:Nat→Nat×Nat} {m:Nat} (h:Fst W l φ m) (hm:glN+m<roN) (p:Nat×Nat) (et:TypeId) (vals:List Value)
  (hh:∃ cs f,W.heap[p.1]? =some (.cells cs et f)∧p.2+vals.length≤cs.size∧∀ (i:Nat) (v:Value),vals[i]? =some v→∃ v',cs[p.2+i]? =some v'∧VR (startG2 φ m) W v v'):
  Fst W ((glN+m,et,vals)::l) (nxt φ m p) (m+1)∧StLe l φ m ((glN+m,et,vals)::l) (nxt φ m p) (m+1)∧
   (startG2 (nxt φ m p) (m+1)).φ (glN+m)=p∧(startH ((glN+m,et,vals)::l)).get (glN+m)=some (.cells vals et 0 false false):=by
 have hget:∀ b,(startH ((glN+m,et,vals)::l)).get b=if b=glN+m then some (.cells vals et 0 false false) else (startH l).get b:=fun b=>by
  rw [IH.get_eq,IH.get_eq]
  have hlt:Nat.blt (glN+m) glN=false:=by
   cases h:Nat.blt (glN+m) glN with
   |false=>rfl
   |true=>have:=Nat.le_of_ble_eq_true h;omega
  show ((startT l).put (kx (glN+m)) (some (.cells vals et 0 (Nat.blt (glN+m) glN) false))).get (kx b)=_
  rw [Tr.get_put,kx_if,hlt];rfl
 refine ⟨⟨by omega,fun x hx=>?_⟩,⟨nxt_le,fun b o hb=>?_⟩,nxt_new,by rw [hget,if_pos rfl]⟩
 ·rcases List.mem_cons.1 hx with rfl |hx
  ·refine ⟨by show glN+m<glN+(m+1);omega,?_⟩
   obtain ⟨cs,f,h1,h2,h3⟩:=hh
   refine ⟨cs,f,by rw [nxt_new];exact h1,by rw [nxt_new];exact h2,fun h=>by simp only at h;omega,fun i v hv=>?_⟩
   obtain ⟨v',h4,h5⟩:=h3 i v hv
   exact ⟨v',by rw [nxt_new];exact h4,h5.mono nxt_le (.refl _)⟩
  ·obtain ⟨h1,h2⟩:=h.each x hx
   exact ⟨by omega,h2.mono nxt_le h1⟩
 ·rw [hget,if_neg]
  ·exact hb
  ·rintro rfl
   obtain ⟨x,hx,h1,_⟩:=startH_get hb
   have:=(h.each x hx).1
   omega
def cellsP:(s:Sh)→s.ty→Option (List Value)
 | .int k,n=>some [.int k n]
 | .byte,c=>some [.int .u8 c.toNat]
 | .bool,b=>some [.bool b]
 | .str,s=>some [.string (ba s)]
 | .cons a b,x=>match cellsP a x.1,cellsP b x.2 with
  |some u,some w=>some (u++w)
  |_,_=>none
 | .slc _,_=>none
theorem cellsP_enc {Pu:Nat→Prop} {I:IH}:∀ {s:Sh} {x:s.ty} {vs:List Value},cellsP s x=some vs→Enc Pu I s x vs:=by
 intro s
 induction s with
 |int k=>intro x vs h;cases h;unfold Enc;rfl
 |byte=>intro x vs h;cases h;unfold Enc;rfl
 |bool=>intro x vs h;cases h;unfold Enc;rfl
 |str=>intro x vs h;cases h;unfold Enc;rfl
 |cons a b iha ihb=>
  intro x vs h
  unfold cellsP at h
  split at h
  ·rename_i u w h1 h2
   cases h
   unfold Enc
   exact ⟨u,w,rfl,iha h1,ihb h2⟩
  ·cases h
 |slc e _=>intro x vs h;cases h
def tabCells (s:Sh):List s.ty→Option (List Value)
 | []=>some []
 |x::r=>match cellsP s x,tabCells s r with
  |some u,some w=>some (u++w)
  |_,_=>none
theorem tabCells_at {Pu:Nat→Prop} {I:IH} {s:Sh}:∀ {xs:List s.ty} {vs:List Value},tabCells s xs=some vs→∀ i x,xs[i]? =some x→i*s.sz+s.sz≤vs.length∧Enc Pu I s x ((vs.drop (i*s.sz)).take s.sz):=by
 intro xs
 induction xs with
 |nil=>intro vs _ i x hx;simp at hx
 |cons y r ih=>
  intro vs h i x hx
  unfold tabCells at h
  split at h
  ·rename_i u w h1 h2
   cases h
   have henc:=cellsP_enc (Pu:=Pu) (I:=I) h1
   have hlen:=henc.len
   cases i with
   |zero=>
    simp only [List.getElem?_cons_zero,Option.some.injEq] at hx
    subst hx
    rw [Nat.zero_mul,Nat.zero_add,List.drop_zero,←hlen,List.take_left']
    ·exact ⟨by simp,henc⟩
    ·rfl
   |succ i=>
    rw [List.getElem?_cons_succ] at hx
    obtain ⟨h3,h4⟩:=ih h2 i x hx
    have e:(i+1)*s.sz=u.length+i*s.sz:=by rw [hlen,Nat.add_mul];omega
    refine ⟨by rw [e,List.length_append];omega,?_⟩
    rw [e,←List.drop_drop,List.drop_left']
    ·exact h4
    ·rfl
  ·cases h
theorem tabCells_len {s:Sh}:∀ {xs:List s.ty} {vs:List Value},tabCells s xs=some vs→vs.length=List.length xs*s.sz:=by
 intro xs
 induction xs with
 |nil=>intro vs h;cases h;simp
 |cons y r ih=>
  intro vs h
  unfold tabCells at h
  split at h
  ·rename_i u w h1 h2
   cases h
   have:=(cellsP_enc (Pu:=fun _=>True) (I:=startH []) h1).len
   rw [List.length_append,ih h2,this,List.length_cons,Nat.add_mul];omega
  ·cases h
def glOf:List (Nat×Tb)→List (Nat×List Value)
 | []=> []
 |(g,T)::r=>(g,(tabCells T.e T.xs).getD [])::glOf r
def tbGood:List (Nat×Tb)→Bool
 | []=>true
 |(_,T)::r=>(tabCells T.e T.xs).isSome &&tbGood r
theorem tabs_in {E:Nat→TypeId}:∀ {L:List (Nat×Tb)},tbGood L=true→∀ g T,tbOf L g=some T→∃ vs,tabCells T.e T.xs=some vs∧(startH (mkG (glOf L) E)).get g=some (.cells vs (E g) 0 (Nat.blt g glN) false):=by
 intro L
 induction L with
 |nil=>intro _ g T h;cases h
 |cons p r ih=>
  obtain ⟨g0,T0⟩:=p
  intro hg g T h
  unfold tbGood at hg
  simp only [Bool.and_eq_true] at hg
  have hget:(startH (mkG (glOf ((g0,T0)::r)) E)).get g=if g=g0 then some (.cells ((tabCells T0.e T0.xs).getD []) (E g0) 0 (Nat.blt g0 glN) false) else (startH (mkG (glOf r) E)).get g:=by
   rw [IH.get_eq,IH.get_eq]
   show ((startT (mkG (glOf r) E)).put (kx g0) (some (.cells ((tabCells T0.e T0.xs).getD []) (E g0) 0 (Nat.blt g0 glN) false))).get (kx g)=_
   rw [Tr.get_put,kx_if];rfl
  unfold tbOf at h
  cases hb:Nat.beq g0 g with
  |true=>
   rw [hb] at h;cases h
   have:=Nat.eq_of_beq_eq_true hb
   subst this
   obtain ⟨vs,hv⟩:=Option.isSome_iff_exists.1 hg.1
   exact ⟨vs,hv,by rw [hget,if_pos rfl,hv];rfl⟩
  |false=>
   rw [hb] at h
   have hne:¬ g=g0:=by rintro rfl;rw [Nat.beq_refl] at hb;cases hb
   obtain ⟨vs,h1,h2⟩:=ih hg.2 g T h
   exact ⟨vs,h1,by rw [hget,if_neg hne];exact h2⟩
theorem Fst.tables {fuel:Nat} {w:World} {laid:List (String×DataW Unit)} {L:List (Nat×Tb)} (hn:(laid.filter fun x=>x.2.handleName?.isSome)= []) (hl:laidMetH P laid w) (hg:∀ x∈glOf L,x∈gvals P fuel laid) (hok:tbGood L=true) (htb:sh.tb=tbOf L):
  ∃ l φ,Fst w l φ 0∧TabsIn sh (PuL l) (startH l):=by
 obtain ⟨ps,hps⟩:=plainLaid hn hl
 refine ⟨mkG (glOf L) (elemAt w),fun _=>(0,0),⟨by decide,fun x hx=>?_⟩,fun g T hg2 hT=>?_⟩
 ·obtain ⟨y,hy,rfl⟩:=List.mem_map.1 hx
  obtain ⟨h1,h2,cs,f,h3,h4,h5⟩:=holds_of_laid (f:=fuel) laid ps hps _ (List.mem_map.2 ⟨y,hg y hy,rfl⟩)
  have e:(startG2 (fun _=>(0,0)) 0).φ y.1=(y.1,0):=by
   show (if y.1<glN then (y.1,0) else (0,0))=_
   rw [if_pos h1]
  exact ⟨h1,cs,f,by rw [e];exact h3,by rw [e];simpa using Nat.le_of_eq h4,fun _=>by rw [e];exact ⟨rfl,h4.symm⟩,fun i v hv=> ⟨v,by rw [e];simp only [Nat.zero_add];exact h5 i v hv,.of_free1 (List.all_eq_true.1 h2 v (List.mem_of_getElem? hv))⟩⟩
 ·rw [htb] at hT
  obtain ⟨vs,h1,h2⟩:=tabs_in (E:=elemAt w) hok g T hT
  exact ⟨⟨_,h2⟩,vs,_,_,_,_,h2,Nat.ble_eq_true_of_le hg2,tabCells_len h1,tabCells_at h1⟩
theorem Fst.bare {w:World} (htb:∀ g,sh.tb g=none):∃ l φ,Fst w l φ 0∧TabsIn sh (PuL l) (startH l):=
 ⟨[],fun _=>(0,0),⟨by decide,fun x hx=>by cases hx⟩,fun g T _ hT=>by rw [htb] at hT;cases hT⟩
theorem law_gvS (hsp:SpecOK P (gspec hint)) (hng:noNG P=true) (hm:P.follows .mixedOrders=true) {it:FnIt} {n:Nat} (hal:findS (hint specKey) it.f=none) (hok:FnOK P hint sh it n) {x:argsTy it.pa} {y:argsTy it.re} (hF:it.F n x=some y)
  (hy:∀ {Γ:Gam} {Pu:Nat→Prop} {I:IH} {v:Value},GR Γ Pu I (resTV (encA it.re y)) v→v= .bool true)
  {l:List GV} {φ:Nat→Nat×Nat} {m:Nat} {w:World} (hS:Fst w l φ m) (ht:TabsIn sh (PuL l) (startH l))
  {vs:List Value} (hd:Dats (PuL l) (startH l) it.pa x vs) {args:Array Value} (hv:VRs (startG2 φ m) w vs args.toList):
  Calls P it.f args w fun e w'=>e= .returned (.bool true)∧Below w.heap.size w w':=by
 obtain ⟨Pu1,I1,v,r1,r2,_⟩:=hok.run hF (start_sim (P:=P) (hint:=hint) hS.lt PuL.pu ht) hd
 have hb:=hy (r2 startΓ)
 subst hb
 have hc:(ev P hint (gspec hint) (n+it.D+1)).call it.f vs (startH l)=some (.returned (.bool true),I1):=by
  show evCallS P hint (gspec hint) (ev P hint (gspec hint) (n+it.D)) it.f vs (startH l)=_
  simp only [evCallS,gspec,hal]
  exact r1
 have:=(ev_sound hng (draw_ok hm hng) (hsp) (n+it.D+1)).1.call hc (start_rh2 hS.mle hS.each) hv
 refine (callsIn_wide.1 this).mono ?_
 rintro e1 w1 ⟨Γ1,he,_,hE⟩
 cases he with
 |returned hv=>rw [hv.boolE];exact ⟨rfl,start_ext2 hS.lt hE⟩
def Spec1 (P:Program) (k f g:Nat):Prop:=(∃ fn c,P.funcs[f]? =some fn∧fn.body=some c)∧∀ {args:List Value} {I:IH} {v:Value},specV k g args I=some v→∀ {Γ:Ga} {w:World} {args':Array Value},Rh Γ I w→VRs Γ w args args'.toList→CallsIn Fence.wide 0 P f args' w (CPost Γ I w (.returned v) I)
def SpecsOK (P:Program):List Nat→Prop
 |k::f::g::r=>Spec1 P k f g∧SpecsOK P r
 |_=>True
theorem gspec_ok (h:SpecsOK P (hint specKey)):SpecOK P (gspec hint):=by
 intro f args I e I' hs
 unfold gspec at hs
 split at hs
 ·rename_i k g hf
  unfold specR at hs
  rw [Option.map_eq_some_iff] at hs
  obtain ⟨v,hv,he⟩:=hs
  cases he
  have key:∀ l,SpecsOK P l→findS l f=some (k,g)→Spec1 P k f g:=by
   intro l
   induction l using SpecsOK.induct with
   |case1 k1 f1 g1 r ih=>
    intro h1 h2
    unfold findS at h2
    cases hb:Nat.beq f f1 with
    |true=>
     rw [hb] at h2;cases h2
     have:=Nat.eq_of_beq_eq_true hb
     subst this
     exact h1.1
    |false=>rw [hb] at h2;exact ih h1.2 h2
   |case2 l hl=>
    intro _ h2
    unfold findS at h2
    split at h2
    ·exact absurd rfl (hl _ _ _ _)
    ·cases h2
  have h1:=key _ h hf
  exact ⟨h1.1,fun hR ha=>h1.2 hv hR ha⟩
 ·cases hs
theorem spec_true {f g:Nat} (hs:SpecOK P (trueSpec f)):Spec1 P 0 f g:=by
 have hb:Nat.beq f f=true:=Nat.beq_refl f
 refine ⟨(hs (f:=f) (args:= []) (H:=startH []) (by simp only [trueSpec,hb];rfl)).1,fun {args I v} hv {Γ w args'} hR ha=>?_⟩
 unfold specV at hv
 split at hv
 ·cases hv
  exact (hs (f:=f) (args:= []) (H:=I) (by simp only [trueSpec,hb];rfl)).2 hR ha
 ·exact absurd ‹(0:Nat)=1› (by decide)
 ·exact absurd ‹(0:Nat)=2› (by decide)
 ·exact absurd ‹(0:Nat)=3› (by decide)
 ·cases hv
theorem spec_below {f:Nat} {args':Array Value} {w:World} {Γ:Ga} {I:IH} {v v':Value} (hR:Rh Γ I w) (hv:∀ w',VR Γ w' v v') (h:Calls P f args' w fun e w'=>e= .returned v'∧Below w.heap.size w w'):
  CallsIn Fence.wide 0 P f args' w (CPost Γ I w (.returned v) I):=by
 refine (callsIn_wide.2 h).mono ?_
 rintro e w1 ⟨rfl,hb⟩
 have keep:∀ b,b<w.heap.size→w1.heap[b]? =w.heap[b]? :=hb.block
 have hS:Same w w1:=fun b cs e f h=> ⟨cs,f,(keep b (Array.getElem?_eq_some_iff.1 h).1).trans h,rfl⟩
 refine ⟨Γ,.returned (hv w1),⟨hR.dom,hR.ro,hR.glob,hR.live,hR.inj,fun b o hb'=>(hR.obj b o hb').mono (.refl Γ) hS (hR.live b o hb') (keep _ (hR.lt hb'))⟩,?_⟩
 exact ⟨Nat.le_refl _,fun _ _=>rfl,fun i=> ⟨.inl,fun x=>x.elim id fun x=>by omega⟩,hb.size,hb.os,hb.tape,hb.output,hS,fun b hb' _=>keep b hb',fun _ _ x=>x,fun _ _ o x=> ⟨o,x⟩⟩
theorem cell_at {w:World} {a:Addr} {i:Nat} {v:Value} (hs:a.spot=none) (h:w.cell? (a.add i)=some v):∃ cs e f,w.heap[a.block]? =some (.cells cs e f)∧cs[a.off+i]? =some v:=by
 have ha:a.add i= ⟨a.block,a.off+i,none⟩:=by
  obtain ⟨b,o,s⟩:=a
  simp only at hs
  subst hs
  unfold Addr.add
  split
  ·rename_i h0;subst h0;rfl
  ·rfl
 rw [ha] at h
 unfold World.cell? at h
 simp only at h
 split at h
 ·rename_i cs e f hb
  exact ⟨cs,e,f,hb,by simpa using h⟩
 ·cases h
theorem Fst.list {w:World} {l:List GV} {φ:Nat→Nat×Nat} {m:Nat} (hS:Fst w l φ m) (hm:glN+m<roN) {a:Addr} {len cap row cells:Nat} {vals:List Value} (hlen:vals.length=cap) (hlc:len≤cap) (hfree:vals.all free1=true) (hs:a.spot=none) (hsh:w.shape? a.block=some (row,cells))
  (hcell:∀ i v,vals[i]? =some v→w.cell? (a.add i)=some v):
  ∃ l' φ' et,Fst w l' φ' (m+1)∧StLe l φ m l' φ' (m+1)∧(startH l').get (glN+m)=some (.cells vals et 0 false false)∧VR (startG2 φ' (m+1)) w (.slice (some ⟨glN+m,0,none⟩) len (unk+1)) (.slice (some a) len cap):=by
 have hblk:∃ cs et f,w.heap[a.block]? =some (.cells cs et f):=by
  unfold World.shape? at hsh
  split at hsh
  ·rename_i cs e f hb;exact ⟨cs,e,f,hb⟩
  ·cases hsh
 obtain ⟨cs,et,f,hb⟩:=hblk
 have hdom:∀ φ',(startG2 φ' (m+1)).dom (glN+m):=fun φ'=>by show glN+m<glN+(m+1);omega
 rcases Nat.eq_zero_or_pos cap with h0 |h0
 ·subst h0
  have hv:vals= []:=List.length_eq_zero_iff.1 hlen
  subst hv
  have hl0:len=0:=by omega
  subst hl0
  obtain ⟨r1,r2,r3,r4⟩:=hS.add hm (a.block,0) et [] ⟨cs,f,hb,by simp,fun i v hv=>by simp at hv⟩
  exact ⟨_,_,et,r1,r2,r4,.sliceU (hdom _) (Nat.le_refl _) (.inl ⟨rfl,rfl,by rw [r3]⟩)⟩
 ·have each:∀ i v,vals[i]? =some v→cs[a.off+i]? =some v:=by
   intro i v hv
   obtain ⟨cs',e',f',hb',h'⟩:=cell_at hs (hcell i v hv)
   cases hb.symm.trans hb'
   exact h'
  have hroom:a.off+cap≤cs.size:=by
   have hlast:∃ v,vals[cap - 1]? =some v:= ⟨_,List.getElem?_eq_getElem (by omega)⟩
   obtain ⟨v,hv⟩:=hlast
   have:=each _ _ hv
   have:=(Array.getElem?_eq_some_iff.1 this).1
   omega
  obtain ⟨r1,r2,r3,r4⟩:=hS.add hm (a.block,a.off) et vals ⟨cs,f,hb,by simp only [hlen];exact hroom,fun i v hv=> ⟨v,each i v hv,.of_free1 (List.all_eq_true.1 hfree v (List.mem_of_getElem? hv))⟩⟩
  refine ⟨_,_,et,r1,r2,r4,.sliceU (hdom _) hlc (.inr ⟨?_,cs,et,f,hb,by simpa using hroom⟩)⟩
  obtain ⟨b,o,s⟩:=a
  simp only at hs
  subst hs
  simp only [Ga.at,r3,Nat.add_zero]
end Go.Gv
namespace Go.Gv
open Go Go.Iv Go.RowKit Go.ChangeShapes Go.WideShapes
variable {P:Program} {hint:Hint} {sh:ShT} {H:Type} {enc:TypeId×Value→H}
end Go.Gv
namespace Go.Gv
open Go
end Go.Gv
