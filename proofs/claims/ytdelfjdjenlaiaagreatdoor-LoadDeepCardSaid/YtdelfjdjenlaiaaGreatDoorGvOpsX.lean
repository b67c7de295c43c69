/- The pure evaluator's operations are the ideal one's (the first part): memory. -/
import Derived.Test.YtdelfjdjenlaiaaGreatDoorGvHeap
import Derived.Test.YtdelfjdjenlaiaaGreatDoorIvFastA
import Derived.Laws.StructEq
set_option linter.unusedSimpArgs false
set_option linter.unusedVariables false
namespace Go.Gv
open Go Go.Iv
def aq:Option ag->Option (Value×IH)
 |some (.val v H)=>some (v,H)
 |some (.skip H)=>some (Go.undef,H)
 |_=>none
section
variable {β:Type} {P:Program} {hint:Hint} {sh:cA} {Γ Γ1:bc} {Pu Pu1:Nat->Prop} {H H1:GH} {I I1:IH} {K:TV->GH->Option β} {r:β}
def Good (P:Program) (hint:Hint) (sh:cA) (K:TV->GH->Option β) (r:β) (Γ:bc) (Pu:Nat->Prop) (H:GH) (I:IH) (run:Option (Value×IH)):Prop:=
 ∃ t H1 Γ1 Pu1 v I1,K t H1=some r/\run=some (v,I1)/\GR Γ1 Pu1 I1 t v/\aw P hint sh Γ1 Pu1 H1 I1/\Ex (bx Γ H I) Γ Pu H I Γ1 Pu1 H1 I1
theorem Good.same (hs:aw P hint sh Γ Pu H I) {t:TV} {v:Value} (h:K t H=some r) (hr:GR Γ Pu I t v):Good P hint sh K r Γ Pu H I (some (v,I)):=
 ⟨t,H,Γ,Pu,v,I,h,rfl,hr,hs,Ex.refl hs⟩
theorem aE {b:Bool} {x:Option β} (h:dW.ep b x=some r):b=true/\x=some r:=by
 cases b with
 |true=>exact ⟨rfl,h⟩
 |false=>cases h
theorem ae {b:Bool} {x:Option β} (h:(bif b then x else none)=some r):b=true/\x=some r:=by
 cases b with
 |true=>exact ⟨rfl,h⟩
 |false=>cases h
theorem eM {α:Type} {o:Option α} {k:α->Option β} (h:dW.opt o k=some r):∃ a,o=some a/\k a=some r:=by
 cases o with
 |none=>cases h
 |some a=>exact ⟨a,rfl,h⟩
theorem iL {b:Bool} {x y:Option β} (h:dW.WN b x y=some r):(b=true/\x=some r)∨(b=false/\y=some r):=by
 cases b with
 |true=>exact .inl ⟨rfl,h⟩
 |false=>exact .inr ⟨rfl,h⟩
theorem af {a b:Bool} (h:(a &&b)=true):a=true/\b=true:=by simpa using h
theorem beq_true {a b:Nat} (h:Nat.beq a b=true):a=b:=Nat.eq_of_beq_eq_true h
theorem aB {a b:Nat} (h:Nat.ble a b=true):a<=b:=Nat.le_of_ble_eq_true h
theorem cf {a b:Nat} (h:Nat.blt a b=true):a<b:=Nat.le_of_ble_eq_true h
theorem bh {a b:Int} (h:aQ a b=true):a<=b:=by rw [kI] at h;exact of_decide_eq_true h
theorem lD {a b:Int} (h:aR a b=true):a<b:=by rw [mK] at h;exact of_decide_eq_true h
theorem kc {bs:List Value} {et:TypeId} {fz:Nat} {ex sd:Bool} {b off:Nat} {cs:List TV} {t:TypeId} {x:TV} (hg:I.get b=some (.cells bs et fz ex sd)) (hl:off+cs.length<=bs.length) (hr:bK Γ Pu I cs ((bs.drop off).take cs.length))
  (h:fF P t cs=some x):∃ v,iS P I t b off=some v/\GR Γ Pu I x v:=by
 unfold fF at h;unfold iS;cases ha:eK P t with
 |none=>rw [ha] at h;cases h
 |some g=>
  rw [ha] at h;cases g with
  |true=>
   simp only at h ⊢;cases hi:P.info? t with
   |none=>rw [hi] at h;cases h
   |some i=>
    rw [hi] at h;simp only at h ⊢;obtain ⟨h1,h2⟩:=ae h;cases h2;have hle:=aB h1;have hc:I.bq b off i.size=some ((bs.drop off).take i.size):=by
     unfold IH.bq;rw [hg];simp only;rw [if_pos (by omega)]
    rw [hc];refine ⟨_,rfl,?_⟩;have:=hr.take i.size;rw [List.take_take,Nat.min_eq_left hle] at this;exact .agg this
  |false=>
   simp only at h ⊢;rw [hg];simp only;cases cs with
   |nil=>cases h
   |cons c cs=>
    cases h;obtain ⟨v,hv,hr'⟩:=hr.get (i:=0) rfl;refine ⟨v,?_,hr'⟩;rw [List.getElem?_take,if_pos (by simp),List.getElem?_drop] at hv;simpa using hv
theorem bK.whole {cs:List TV} {bs:List Value} (h:bK Γ Pu I cs bs) (off:Nat) (hle:off<=cs.length):off+(cs.drop off).length<=bs.length/\bK Γ Pu I (cs.drop off) ((bs.drop off).take (cs.drop off).length):=by
 have hl:=h.length;have:(bs.drop off).take (cs.drop off).length=bs.drop off:=List.take_of_length_le (by simp;omega);rw [this];exact ⟨by simp;omega,h.drop off⟩
theorem z8 {l:Loc} {et:TypeId} {e:Sh} {xs:List e.ty} {w fz:Bool} {em:Em} (ho:OR P hint Γ Pu I l (.arr et e xs w fz em)) {i:Nat} {x:e.ty} (hx:xs[i]? =some x) {b o:Nat} (hp:l.pos=some (b,o)) (off:Nat):
  ∃ bs f ex sd,I.get b=some (.cells bs et f ex sd)/\o+i*l.sz+off+((e.de x).drop off).length<=bs.length+off/\(off<=e.sz->o+i*l.sz+off+((e.de x).drop off).length<=bs.length)/\
   bK Γ Pu I ((e.de x).drop off) ((bs.drop (o+i*l.sz+off)).take ((e.de x).drop off).length):=by
 obtain ⟨h1,h2,h3,h4 |⟨b',o',vs,f,ex,sd,hp2,he,hg2,ht,hlen,hxs,_,_⟩⟩:=ho
 ·rw [h4.1] at hp;cases hp
 ·cases hp.symm.trans hp2
  have henc:=hxs i x hx;have hr:=henc.de (Γ:=Γ);have hlv:=hr.length;have hlt:=henc.len;have hil:i<xs.length:=(List.getElem?_eq_some_iff.1 hx).1;have hb:o+i*e.sz+e.sz<=vs.length:=by
   have:(i+1)*e.sz<=xs.length*e.sz:=Nat.mul_le_mul_right _ hil;rw [zag,Nat.one_mul] at this;omega
  have hd:=hr.drop off;rw [h2];refine ⟨vs,f,ex,sd,hg2,by simp;omega,fun hle=>by simp;omega,?_⟩;have e1:((e.de x).drop off).length=e.sz - off:=by simp;omega
  rw [e1];rw [List.drop_take,zah] at hd;exact hd
theorem vK (hs:aw P hint sh Γ Pu H I) {t:TypeId} {a:TV} {a':Value} (h:nB dW P H t a K=some r) (ha:GR Γ Pu I a a'):Good P hint sh K r Γ Pu H I (aq (dy P I t a')):=by
 unfold nB at h;split at h
 ·rename_i id off
  cases ha with |ptr hl hp=>
  split at h
  ·rename_i et cs w hg
   obtain ⟨h1,h2⟩:=ae h;split at h2
   ·rename_i x hx
    obtain ⟨l',hl',ho⟩:=hs.obj id _ hg;cases hl.symm.trans hl';obtain ⟨b',vs,fz,ex,sd,hp',hgb,hr,_,_⟩:=ho;cases hp.symm.trans hp';obtain ⟨q1,q2⟩:=hr.whole off (aB h1);obtain ⟨v,hv,hrv⟩:=kc (P:=P) (t:=t) hgb q1 q2 hx;simp only [dy,hv,aq];exact Good.same hs h2 hrv
   ·cases h2
  ·cases h
 ·rename_i cs
  cases ha with |oC hpu hg hle hr=>
  split at h
  ·rename_i x hx
   obtain ⟨v,hv,hrv⟩:=kc (P:=P) (t:=t) hg hle hr hx;simp only [dy,hv,aq];exact Good.same hs h hrv
  ·cases h
 ·rename_i id i off
  cases ha with |jd hl hp=>
  split at h
  ·rename_i et e xs w fz em hg
   replace h:=ae h;obtain ⟨hb,h⟩:=h;obtain ⟨x,hx,h2⟩:=eM h;split at h2
   ·rename_i y hy
    obtain ⟨l',hl',ho⟩:=hs.obj id _ hg;cases hl.symm.trans hl';obtain ⟨bs,f,ex,sd,hgb,_,hle,hr⟩:=z8 ho hx hp off;obtain ⟨v,hv,hrv⟩:=kc (P:=P) (t:=t) hgb (hle (aB hb)) hr hy;simp only [dy,hv,aq];exact Good.same hs h2 hrv
   ·cases h2
  ·cases h
 ·cases h
theorem GR.one {t:TV} {v:Value} (h:GR Γ Pu I t v) (ho:t.one=true):Iv.one v=true:=by
 cases h with
 |agg _=>cases ho
 |jg _=>cases ho
 |undef _=>cases ho
 |raw v=>exact ho
 |aC he _ _=>
  unfold cy at he;rcases he with ⟨_,h⟩ |⟨b,off,cap,cs,et,fz,ex,sd,h,_⟩ |⟨_,b,h⟩<;>cases h<;>rfl
 |all _ hv |own _ _ hv=>
  unfold fT at hv;split at hv
  ·obtain ⟨rfl,_⟩:=hv;rfl
  ·obtain ⟨cap,rfl,_⟩:=hv;rfl
 |mp _ hv=>obtain ⟨r,rfl⟩:=hv.map;cases r<;>rfl
 |_=>rfl
theorem kh {v:Value} (h:Iv.one v=true):v.cells.toList= [v]:=by
 cases v<;>first |rfl |cases h
theorem TV.GI {t:TV} (h:t.one=true):t.cells= [t]:=by
 cases t<;>first |rfl |cases h
theorem GR.cells {t:TV} {v:Value} (h:GR Γ Pu I t v) (ho:t.cells.all TV.one=true):bK Γ Pu I t.cells v.cells.toList:=by
 by_cases h1:t.one=true
 ·rw [t.GI h1,kh (h.one h1)]
  exact .cons h .nil
 ·cases h with
  |agg h=>exact h
  |jg _=>cases ho
  |undef _=>cases ho
  |raw v=>simp [TV.cells] at ho;exact absurd ho h1
  |_=>exact absurd rfl h1
theorem bK.BM {l:List TV} {l':List Value} (h:bK Γ Pu I l l') (ho:l.all TV.one=true):l'.all Iv.one=true:=by
 induction l generalizing l' with
 |nil=>cases h;rfl
 |cons t l ih=>
  cases h with
  |cons a b=>
   simp only [List.all_cons,zae] at ho ⊢;exact ⟨a.one ho.1,ih b ho.2⟩
theorem bf:∀ (vs bs:List Value) (o:Nat),(ay bs o vs).length=bs.length:=by
 intro vs
 induction vs with
 |nil=>intro bs o;rfl
 |cons v vs ih=>intro bs o;simp only [ay];rw [ih];simp
theorem sK:∀ (vs bs:List Value) (a o:Nat),(ay bs (a+o) vs).drop a=ay (bs.drop a) o vs:=by
 intro vs
 induction vs with
 |nil=>intro bs a o;rfl
 |cons v vs ih=>
  intro bs a o;simp only [ay];rw [Nat.add_assoc,ih]
  congr 1
  rw [List.drop_set,if_neg (by omega)]
  congr 1
  omega
theorem sV:∀ (vs bs:List Value) (o n:Nat),(ay bs o vs).take n=ay (bs.take n) o vs:=by
 intro vs
 induction vs with
 |nil=>intro bs o n;rfl
 |cons v vs ih=>intro bs o n;simp only [ay];rw [ih,List.take_set]
theorem ku:∀ (vs bs:List Value) (a o n:Nat),(a+n<=o∨o+vs.length<=a)->((ay bs o vs).drop a).take n=(bs.drop a).take n:=by
 intro vs
 induction vs with
 |nil=>intro bs a o n _;rfl
 |cons v vs ih=>
  intro bs a o n h;simp only [ay];simp only [zad] at h;rw [ih _ a (o+1) n (by omega)];apply List.ext_getElem?;intro k;rw [List.getElem?_take,List.getElem?_take];split
  ·rw [List.getElem?_drop,List.getElem?_drop,List.getElem?_set_ne (by omega)]
  ·rfl
theorem iN {bs:List Value} {et:TypeId} {fz:Nat} {ex sd:Bool} {b off:Nat} {vs:List Value} (hg:I.get b=some (.cells bs et fz ex sd)) (hro:dO<=b) (hfz:fz<=off) (hle:off+vs.length<=bs.length) (ho:vs.all Iv.one=true) (hne:vs≠ []):
  I.dF b off vs=some (I.put b (.cells (ay bs off vs) et fz ex sd)):=by
 unfold IH.dF;have:vs.isEmpty=false:=by cases vs with
  |nil=>exact absurd rfl hne
  |cons=>rfl
 rw [this,hg];simp only [Bool.false_eq_true,if_false];rw [if_pos];simp only [zae,decide_eq_true_eq];exact ⟨⟨⟨hro,hfz⟩,hle⟩,ho⟩
theorem BA (hs:aw P hint sh Γ Pu H I) {t:TypeId} {a x:TV} {a' x':Value} (h:B7 dW P H t a x K=some r) (ha:GR Γ Pu I a a') (hx:GR Γ Pu I x x'):Good P hint sh K r Γ Pu H I (aq (bW P I t a' x')):=by
 unfold B7 at h;split at h
 ·rename_i i hi
  replace h:=ae h;obtain ⟨h1,h⟩:=h;replace h1:=af h1;obtain ⟨h1,h2⟩:=h1;have hlen:=beq_true h1;have hc:=hx.cells h2;have hones:=hc.BM h2;have hl:=hc.length;have hsz:x'.cells.size=i.size:=by rw [←Array.length_toList,hl,hlen]
  split at h
  ·rename_i id off
   cases ha with |ptr hlo hp=>
   rename_i b l;split at h
   ·rename_i et cs hg
    replace h:=ae h;obtain ⟨h3,h⟩:=h;replace h3:=af h3;obtain ⟨h3,h4⟩:=h3;have hle:=aB h3;obtain ⟨l',hl',ho⟩:=hs.obj id _ hg;cases hlo.symm.trans hl';obtain ⟨b',vs,fz,ex,sd,hp',hgb,hr,hw,hu⟩:=ho;cases hp.symm.trans hp';obtain ⟨w1,w2,w3,w4⟩:=hw rfl;have hne:x'.cells.toList≠ []:=by
     intro e;rw [e] at hl;simp at hl;rw [List.eq_nil_of_length_eq_zero hl.symm] at h4;cases h4
    have hrl:=hr.length;have hst:=iN (off:=off) (vs:=x'.cells.toList) hgb w1 (by omega) (by omega) hones hne;simp only [bW,gH,hi,if_pos hsz,hst,aq];have hk:∀ k:cH Γ Pu I Γ Pu (I.put b (.cells (ay vs off x'.cells.toList) et fz ex sd)),OR P hint Γ Pu (I.put b (.cells (ay vs off x'.cells.toList) et fz ex sd)) l (.cells et (dY cs off x.cells) true):=fun k=>
     ⟨b,_,fz,ex,sd,hp,by rw [IH.ah,if_pos rfl],(hc.ay hr off).mono k,fun _=>⟨w1,w2,w3,w4⟩,fun h=>by cases h⟩
    have hnp:¬ Pu b:=hs.sep b (.pos hg rfl hlo hp)
    obtain ⟨s1,e1⟩:=hs.hX hg rfl hlo hp (.cells et (dY cs off x.cells) true) (.cells (ay vs off x'.cells.toList) et fz ex sd)
     (hk ⟨fun _ _ h=>h,fun _ h=>h,fun b' hb'=>by rw [IH.ah,if_neg (by rintro rfl;exact hnp hb')]⟩)
    exact ⟨_,_,_,_,_,_,h,rfl,.undef _,s1,e1⟩
   ·cases h
  ·rename_i id j off
   cases ha with |jd hlo hp=>
   rename_i b o l;split at h
   ·rename_i ts H1 hpl
    obtain ⟨Pu1,s1,e1,r1⟩:=gB hs hpl hc;split at h
    ·rename_i et e xs em hg
     replace h:=eM h;obtain ⟨y,hy,h⟩:=h;replace h:=ae h;obtain ⟨h3,h⟩:=h;replace h3:=af h3;obtain ⟨h3,h4⟩:=h3;have hle:=aB h3;split at h
     ·rename_i z hz
      obtain ⟨l',hl',ho⟩:=s1.obj id _ hg;cases (e1.g _ _ hlo).symm.trans hl';obtain ⟨bs,f,ex,sd,hgb,_,hbl,hr⟩:=z8 ho hy hp 0;obtain ⟨o1,o2,o3,⟨o4,_⟩ |⟨b',o',vs,f',ex',sd',hp2,he,hg2,ht,hlen',hxs,hw,hu⟩⟩:=ho
      ·rw [o4] at hp;cases hp
      cases hp.symm.trans hp2;cases hgb.symm.trans hg2;obtain ⟨w1,w2,w3,w4⟩:=hw rfl;have w5:=w4 rfl;have htl:=Dq hpl;have hyl:(e.de y).length=e.sz:=by
       have:=(hxs j y hy).len;have h5:=((hxs j y hy).de (Γ:=Γ)).length;omega
      have hjl:j<xs.length:=(List.getElem?_eq_some_iff.1 hy).1;have hjb:o+j*e.sz+e.sz<=bs.length:=by
       have:(j+1)*e.sz<=xs.length*e.sz:=Nat.mul_le_mul_right _ hjl;rw [zag,Nat.one_mul] at this;omega
      have hne:x'.cells.toList≠ []:=by
       intro e;rw [e] at hl;simp at hl;rw [htl,←hl] at hle;have:ts= []:=List.eq_nil_of_length_eq_zero (by omega);rw [this] at h4;cases h4
      have hst:=iN (off:=o+j*l.sz+off) (vs:=x'.cells.toList) hgb w1 (by omega) (by rw [o2];omega) hones hne;simp only [bW,gH,hi,if_pos hsz,hst,aq];have hnp:¬ Pu1 b:=s1.sep b (.pos hg rfl hl' hp);have k:cH Γ Pu1 I Γ Pu1 (I.put b (.cells (ay bs (o+j*l.sz+off) x'.cells.toList) et f ex sd)):=⟨fun _ _ h=>h,fun _ h=>h,fun b' hb'=>by rw [IH.ah,if_neg (by rintro rfl;exact hnp hb')]⟩;have hrow:∀ i q,(xs.set j z)[i]? =some q->cy Pu1 (I.put b (.cells (ay bs (o+j*l.sz+off) x'.cells.toList) et f ex sd)) e q (((ay bs (o+j*l.sz+off) x'.cells.toList).drop (o+i*e.sz)).take e.sz):=by
       intro i q hq;rw [o2] at k ⊢;by_cases hij:i=j
       ·subst hij
        rw [List.getElem?_set_self hjl] at hq;cases hq;rw [sK,sV];have h6:=(hxs i y hy).de (Γ:=Γ);exact (Sh.eg hz (r1.ay h6 off)).mono k.p k.i
       ·rw [List.getElem?_set_ne (Ne.symm hij)] at hq
        rw [ku]
        ·exact (hxs i q hq).mono k.p k.i
        ·rcases Nat.lt_or_gt_of_ne hij with hlt |hgt
         ·left
          have:(i+1)*e.sz<=j*e.sz:=Nat.mul_le_mul_right _ hlt;rw [zag,Nat.one_mul] at this;omega
         ·right
          have:(j+1)*e.sz<=i*e.sz:=Nat.mul_le_mul_right _ hgt;rw [zag,Nat.one_mul] at this;omega
      obtain ⟨s2,e2⟩:=s1.hX hg rfl hl' hp (.arr et e (xs.set j z) true false em) (.cells (ay bs (o+j*l.sz+off) x'.cells.toList) et f ex sd)
       ⟨by rw [o1];simp,o2,o3,.inr ⟨b,o,_,f,ex,sd,hp,fun h=>by
        have:=he h;intro hc;apply this;have:=congrArg List.length hc;simp at this;exact this,by rw [IH.ah,if_pos rfl],by rw [bf];exact ht,by rw [bf];simpa using hlen',hrow,fun _=>⟨w1,w2,by simpa using w3,fun _=>w5⟩,fun h=>by cases h⟩⟩
      exact ⟨_,_,_,_,_,_,h,rfl,.undef _,s2,Ex.trans hs s1 e1 e2⟩
     ·cases h
    ·cases h
   ·cases h
  ·cases h
 ·cases h
end
end Go.Gv
/- The pure evaluator's operations are the ideal one's (the second part): new variables, numbers, texts. -/
namespace Go.Gv
open Go Go.Iv
theorem aP {α β:Type} (P:Program) (s:Sem α) (k:α->Sem β) {a:α} (h:bQ P s=some a):bQ P (s>>=k)=bQ P (k a):=by
 induction s with
 |pure b=>simp [bQ] at h;subst h;rfl
 |program f ih=>exact ih P h
 |_=>simp [bQ] at h
theorem bo {P:Program} {t:TypeId} {d:TypeDesc} (h:P.underlying t=some d):bQ P (underlying t)=some d:=by
 unfold underlying;rw [aP (a:=P) P program _ rfl];simp only [h];rfl
theorem UD (P:Program) (t:TypeId) (k:IntKind) (n m:Int):bQ P (Go.binOp .mul t (.int k n) (.int k m))=some (.int k (k.wrap (n*m))):=by
 simp [Go.binOp,Op.intArith];rfl
theorem Th (P:Program) (t:TypeId) (k:IntKind) (n m:Int) (h:m≠0):bQ P (Go.binOp .quo t (.int k n) (.int k m))=some (.int k (k.wrap (n.tdiv m))):=by
 simp [Go.binOp,Op.intDiv,h];rfl
theorem Ts (P:Program) (t:TypeId) (k:IntKind) (n m:Int) (h:m≠0):bQ P (Go.binOp .rem t (.int k n) (.int k m))=some (.int k (n.tmod m)):=by
 simp [Go.binOp,Op.intDiv,h];rfl
theorem LA (P:Program) (t:TypeId) (k k':IntKind) (n m:Int) (h:0<=m):bQ P (Go.binOp .shl t (.int k n) (.int k' m))=some (.int k (k.wrap (n*2^(min m.toNat k.bits)))):=by
 simp [Go.binOp,Op.shift,if_neg (show ¬ m<0 by omega)];rfl
theorem Lp (P:Program) (t:TypeId) (k k':IntKind) (n m:Int) (h:0<=m):bQ P (Go.binOp .shr t (.int k n) (.int k' m))=some (.int k (n.fdiv (2^(min m.toNat k.bits)))):=by
 simp [Go.binOp,Op.shift,if_neg (show ¬ m<0 by omega)];rfl
theorem qa (P:Program) (t:TypeId) {op:BinOp} {k:IntKind} {n m q:Int} (h:Ak op k n m=some q):bQ P (Go.binOp op t (.int k n) (.int k m))=some (.int k q):=by
 unfold Ak at h;cases op<;>first |(cases h;simp [Go.binOp,Op.intBits];rfl) |cases h
theorem oq {α β:Type} (P:Program) (s:Sem α) (k:α->Sem β):bQ P (s>>=k)=(bQ P s).bind fun a=>bQ P (k a):=by
 induction s with
 |pure b=>rfl
 |program f ih=>exact ih P
 |_=>rfl
theorem Nu {α:Type} (P:Program) (a:α):bQ P (pure a:Sem α)=some a:=rfl
theorem hY (P:Program):bQ P program=some P:=rfl
theorem sY {P:Program} (d:Nat) (xs ys:Array Value):∀ (fs:List Field),bQ P (do
   for f in fs do
    if f.name ≠ "_" then
     if !(←Op.equalIn d f.type (←part f.type xs f.offset) (←part f.type ys f.offset)) then return false
   pure true)=bQ P (Op.eqFields d xs ys fs):=by
 intro fs
 induction fs with
 |nil=>rfl
 |cons f fs ih=>
  simp only [List.forIn_cons,Op.eqFields];by_cases h : f.name ≠ "_"
  ·simp only [h,ne_eq,not_false_eq_true,if_true]
   simp only [oq,bind_assoc];cases bQ P (part f.type xs f.offset) with
   |none=>rfl
   |some a=>
    simp only [zaa];cases bQ P (part f.type ys f.offset) with
    |none=>rfl
    |some b=>
     simp only [zaa];cases bQ P (Op.equalIn d f.type a b) with
     |none=>rfl
     |some r=>
      cases r with
      |false=>rfl
      |true=>
       simp only [zaa,Bool.not_true,Bool.false_eq_true,if_false];rw [←ih];simp only [oq];rfl
  ·simp only [h,if_false]
   rw [←ih];simp only [oq];rfl
theorem G9 {P:Program} {t:TypeId} (h:P.underlying t=some TypeDesc.bool) (x y:Operand) (a b:Bool):bQ P (do eqGuard .eql t x y (.bool a) (.bool b);Go.binOp .eql t (.bool a) (.bool b))=some (.bool (a==b)):=by
 rw [aP (a:=()) P (eqGuard .eql t x y (.bool a) (.bool b)) _ rfl];have he:bQ P (Op.equal t (.bool a) (.bool b))=some (a==b):=by
  unfold Op.equal
  show bQ P (Op.equalIn (9999+1) t (.bool a) (.bool b))=_
  unfold Op.equalIn;rw [aP _ _ _ (bo h)];rfl
 unfold Go.binOp;exact (aP P _ _ he).trans rfl
theorem Ec {P:Program} {t:TypeId} (h:P.underlying t=some TypeDesc.bool) (x y:Operand) (a b:Bool):bQ P (do eqGuard .neq t x y (.bool a) (.bool b);Go.binOp .neq t (.bool a) (.bool b))=some (.bool (!(a==b))):=by
 rw [aP (a:=()) P (eqGuard .neq t x y (.bool a) (.bool b)) _ rfl];have he:bQ P (Op.equal t (.bool a) (.bool b))=some (a==b):=by
  unfold Op.equal
  show bQ P (Op.equalIn (9999+1) t (.bool a) (.bool b))=_
  unfold Op.equalIn;rw [aP _ _ _ (bo h)];rfl
 unfold Go.binOp;exact (aP P _ _ he).trans rfl
theorem wrap_u8 (n:Int):IntKind.u8.wrap n=n%256:=by
 simp [IntKind.wrap,IntKind.bits,IntKind.signed]
theorem RT (a b:UInt8):IntKind.u8.wrap (a.toNat+b.toNat)=((a+b).toNat:Int):=by
 rw [wrap_u8,UInt8.toNat_add];omega
theorem PB (a b:UInt8):IntKind.u8.wrap (a.toNat - b.toNat)=((a - b).toNat:Int):=by
 rw [wrap_u8,UInt8.toNat_sub];have:=a.toNat_lt;have:=b.toNat_lt;omega
theorem ofInt_u8 (a:UInt8):BitVec.ofInt 8 (a.toNat:Int)=a.toBitVec:=by
 rw [BitVec.ofInt_natCast];simp
theorem PD (a b:UInt8):Ak .and .u8 a.toNat b.toNat=some ((a &&&b).toNat:Int):=by
 show some (IntKind.u8.wrap ((BitVec.ofInt 8 (a.toNat:Int) &&&BitVec.ofInt 8 (b.toNat:Int)).toNat:Int))=_
 rw [ofInt_u8,ofInt_u8,wrap_u8];have:(a.toBitVec &&&b.toBitVec).toNat=(a &&&b).toNat:=rfl;rw [this];have:=(a &&&b).toNat_lt;congr 1;omega
theorem TZ (a b:UInt8):Ak .or .u8 a.toNat b.toNat=some ((a |||b).toNat:Int):=by
 show some (IntKind.u8.wrap ((BitVec.ofInt 8 (a.toNat:Int) |||BitVec.ofInt 8 (b.toNat:Int)).toNat:Int))=_
 rw [ofInt_u8,ofInt_u8,wrap_u8];have:(a.toBitVec |||b.toBitVec).toNat=(a |||b).toNat:=rfl;rw [this];have:=(a |||b).toNat_lt;congr 1;omega
theorem SC (a b:UInt8):Ak .xor .u8 a.toNat b.toNat=some ((a^^^b).toNat:Int):=by
 show some (IntKind.u8.wrap ((BitVec.ofInt 8 (a.toNat:Int)^^^BitVec.ofInt 8 (b.toNat:Int)).toNat:Int))=_
 rw [ofInt_u8,ofInt_u8,wrap_u8];have:(a.toBitVec^^^b.toBitVec).toNat=(a^^^b).toNat:=rfl;rw [this];have:=(a^^^b).toNat_lt;congr 1;omega
theorem Ub (n:Int):((UInt8.ofNat (IntKind.u8.wrap n).toNat).toNat:Int)=IntKind.u8.wrap n:=by
 rw [wrap_u8];simp;omega
theorem NL (c:UInt8):IntKind.u8.wrap (c.toNat:Int)=(c.toNat:Int):=by
 rw [wrap_u8];have:=c.toNat_lt;omega
theorem uZ (a b:UInt8):((a.toNat:Int)==(b.toNat:Int))=(a==b):=by
 rw [Bool.eq_iff_iff];simp;exact ⟨fun h=>UInt8.toNat_inj.1 (by omega),fun h=>by rw [h]⟩
theorem Ke (a b:Nat):aR (a:Int) (b:Int)=Nat.blt a b:=by
 rw [mK,Bool.eq_iff_iff];simp [Nat.blt_eq]
theorem KT (a b:Nat):aQ (a:Int) (b:Int)=Nat.ble a b:=rfl
section
variable {β:Type} {P:Program} {hint:Hint} {sh:cA} {Γ Γ1:bc} {Pu Pu1:Nat->Prop} {H H1:GH} {I I1:IH} {K:TV->GH->Option β} {r:β}
theorem GS {v:Value} (h:fy v=true):GR Γ Pu I (ja v) v:=by
 cases v with
 |int k n=>
  cases k<;>try exact .int _ _
  cases n with
  |ofNat n=>
   have hn:n<=255:=aB h;have:GR Γ Pu I (.byte (UInt8.ofNat n)) (.int .u8 ((UInt8.ofNat n).toNat:Int)):= .byte _;have e:((UInt8.ofNat n).toNat:Int)=Int.ofNat n:=by simp;omega
   rw [e] at this;exact this
  |negSucc n=>cases h
 |bool b=>exact .bool b
 |string s=>exact .str (bl s)
 |_=>exact .raw _
theorem dj:∀ {l:List Value},l.all fy=true->bK Γ Pu I (l.map ja) l:=by
 intro l
 induction l with
 |nil=>intro _;exact .nil
 |cons v l ih=>intro h;simp only [List.all_cons,zae] at h;exact .cons (GS h.1) (ih h.2)
theorem TT (v:Value):GR Γ Pu I (conv v) (if free v then v else aS):=by
 unfold conv;cases hf:free v with
 |false=>exact .undef _
 |true=>
  simp only [zac,if_true];split
  ·rename_i cs
   cases hb:cs.toList.all fy with
   |false=>exact .undef _
   |true=>exact .agg (dj hb)
  ·exact .undef _
  ·exact .undef _
  ·cases hb:fy v with
   |false=>exact .undef _
   |true=>exact GS hb
theorem bY {fi:FI} {E:GE} {E':En} (hs:aw P hint sh Γ Pu H I) (he:ER Γ Pu I E E') (x:Operand):GR Γ Pu I (bZ fi E x) (dC fi E' x):=by
 cases x with
 |tmp t=>
  show GR Γ Pu I (fx fi E t) (fw fi E' t)
  unfold fx fw;cases cls fi t with
  |out=>exact .undef _
  |loc=>exact (he t).1
  |tmp=>exact (he t).2
 |const v=>exact TT v
 |global g=>
  show GR Γ Pu I (bif Nat.ble (Nat.succ g) bU then .ptr g 0 else .undef) (if g<bU then _ else _)
  by_cases h:g<bU
  ·rw [if_pos h,Nat.ble_eq_true_of_le (show Nat.succ g<=bU from h)]
   obtain ⟨l,h1,h2⟩:=hs.cE g h;exact .ptr h1 h2
  ·rw [if_neg h]
   cases hb:Nat.ble (Nat.succ g) bU with
   |false=>exact .undef _
   |true=>exact absurd (aB hb) h
 |func f=>exact .fn .nil .nil
theorem Good.cells (hs:aw P hint sh Γ Pu H I) {et:TypeId} {cs:List TV} {vs:List Value} (hr:bK Γ Pu I cs vs) (h:K (.ptr H.n 0) (H.new (.cells et cs true))=some r):
  Good P hint sh K r Γ Pu H I (some (ptrTo I.n,bI I et vs)):=by
 obtain ⟨s1,e1⟩:=hs.new (.cells et cs true) (.cells vs et 0 true false) ⟨some (I.n,0),0,0,0⟩ 0 rfl
  ⟨I.n,vs,0,true,false,rfl,by rw [IH.az,if_pos rfl],hr.mono (jW hs _ _),fun _=>⟨hs.ro,rfl,rfl,rfl⟩,fun h=>by cases h⟩
 exact ⟨_,_,_,_,_,_,h,rfl,.ptr (l:=⟨some (I.n,0),0,0,0⟩) (by simp [bc.up]) rfl,s1,e1⟩
theorem Me (hs:aw P hint sh Γ Pu H I) {e:TypeId} (h:v8 P H e K=some r):Good P hint sh K r Γ Pu H I (aq (fC P I e)):=by
 unfold v8 at h;split at h
 ·rename_i z hz
  replace h:=ae h;obtain ⟨hb,h⟩:=h;simp only [fC,hz,aq];exact Good.cells hs (dj hb) h
 ·cases h
theorem GR.CK {t:TV} {v:Value} (h:GR Γ Pu I t v) (ho:t.ok=true):Oi v=true/\bK Γ Pu I t.cells v.cells.toList:=by
 cases h with
 |agg h=>exact ⟨rfl,h⟩
 |jg _=>cases ho
 |undef _=>cases ho
 |raw v=>
  simp only [TV.ok,zae] at ho;refine ⟨ho.1,?_⟩;have:v.cells.toList= [v]:=by
   cases v<;>first |rfl |(exact absurd ho.2 (by simp))
  rw [this];exact .cons (.raw v) .nil
 |aC he a b=>
  have he0:=he;unfold cy at he;rcases he with ⟨_,h⟩ |⟨b,off,cap,cs,et,fz,ex,sd,h,_⟩ |⟨_,b,h⟩<;>cases h<;>exact ⟨rfl,.cons (.aC he0 a b) .nil⟩
 |all hl hv=>
  have hv0:=hv;unfold fT at hv;split at hv
  ·obtain ⟨rfl,_⟩:=hv;exact ⟨rfl,.cons (.all hl hv0) .nil⟩
  ·obtain ⟨cap,rfl,_⟩:=hv;exact ⟨rfl,.cons (.all hl hv0) .nil⟩
 |own hl hle hv=>
  have hv0:=hv;unfold fT at hv;split at hv
  ·obtain ⟨rfl,_⟩:=hv;exact ⟨rfl,.cons (.own hl hle hv0) .nil⟩
  ·obtain ⟨cap,rfl,_⟩:=hv;exact ⟨rfl,.cons (.own hl hle hv0) .nil⟩
 |int k n=>exact ⟨rfl,.cons (.int k n) .nil⟩
 |byte c=>exact ⟨rfl,.cons (.byte c) .nil⟩
 |bool c=>exact ⟨rfl,.cons (.bool c) .nil⟩
 |str c=>exact ⟨rfl,.cons (.str c) .nil⟩
 |ptr a b=>exact ⟨rfl,.cons (.ptr a b) .nil⟩
 |oC a b c d=>exact ⟨rfl,.cons (.oC a b c d) .nil⟩
 |jd a b=>exact ⟨rfl,.cons (.jd a b) .nil⟩
 |fn a b=>exact ⟨rfl,.cons (.fn a b) .nil⟩
 |mX a b=>exact ⟨rfl,.cons (.mX a b) .nil⟩
 |mp a b=>
  have b0:=b;obtain ⟨r,rfl⟩:=b.map;cases r<;>exact ⟨rfl,.cons (.mp a b0) .nil⟩
theorem EF (hs:aw P hint sh Γ Pu H I) {e:TypeId} {v:TV} {v':Value} (h:Ky H e v K=some r) (hv:GR Γ Pu I v v'):Good P hint sh K r Γ Pu H I (aq (nD I e v')):=by
 unfold Ky at h;replace h:=ae h;obtain ⟨hb,h⟩:=h;obtain ⟨h1,h2⟩:=hv.CK hb;simp only [nD,h1,if_true,aq];exact Good.cells hs h2 h
theorem Te (hs:aw P hint sh Γ Pu H I) {e:TypeId} {v:TV} {v':Value} (h:WH H e v K=some r) (hv:GR Γ Pu I v v'):Good P hint sh K r Γ Pu H I (aq (nD I e v')):=by
 unfold WH at h;split at h
 ·rename_i id
  split at h
  ·rename_i v1 H1 hp
   obtain ⟨Pu1,s1,x1,r1⟩:=gB hs hp (.cons hv .nil);cases r1 with |cons a _=>
   obtain ⟨t,H2,Γ2,Pu2,v2,I2,k1,k2,k3,k4,k5⟩:=EF s1 h a;exact ⟨t,H2,Γ2,Pu2,v2,I2,k1,k2,k3,k4,Ex.trans hs s1 x1 k5⟩
  ·cases h
 ·exact EF hs h hv
def HF (Γ:bc) (Pu:Nat->Prop) (I:IH):List (Nat×TV)->List (Nat×Value)->Prop
 | [],[]=>True
 |(i,t)::l,(j,v)::l'=>i=j/\GR Γ Pu I t v/\HF Γ Pu I l l'
 |_,_=>False
theorem HF.map {Z:Operand->TV} {Z':Operand->Value} (h:∀ x,GR Γ Pu I (Z x) (Z' x)):∀ l:List (Nat×Operand),HF Γ Pu I (l.map fun p=>(p.1,Z p.2)) (l.map fun p=>(p.1,Z' p.2)):=by
 intro l
 induction l with
 |nil=>trivial
 |cons p l ih=>exact ⟨rfl,h p.2,ih⟩
theorem HF.ok:∀ {l:List (Nat×TV)} {l':List (Nat×Value)},HF Γ Pu I l l'->l.all (fun p=>p.2.ok)=true->l'.all (fun p=>Oi p.2)=true:=by
 intro l
 induction l with
 |nil=>intro l' h _;cases l' with
  |nil=>rfl
  |cons=>exact h.elim
 |cons p l ih=>
  intro l' h ho;cases l' with
  |nil=>exact h.elim
  |cons p' l'=>
   obtain ⟨i,t⟩:=p;obtain ⟨j,v⟩:=p';obtain ⟨_,h2,h3⟩:=h;simp only [List.all_cons,zae] at ho ⊢;exact ⟨(h2.CK ho.1).1,ih h3 ho.2⟩
theorem iB {place:Nat->Option (Nat×Nat)}:∀ {ps:List (Nat×TV)} {ps':List (Nat×Value)} {cs cs':List TV} {vs:Array Value},pZ place cs ps=some cs'->ps.all (fun p=>p.2.ok)=true->HF Γ Pu I ps ps'->bK Γ Pu I cs vs.toList->
  ∃ vs',Instr.fill place vs ps'=some vs'/\bK Γ Pu I cs' vs'.toList:=by
 intro ps
 induction ps with
 |nil=>
  intro ps' cs cs' vs h _ hp hr;cases ps' with
  |nil=>unfold pZ at h;cases h;exact ⟨vs,rfl,hr⟩
  |cons=>exact hp.elim
 |cons p ps ih=>
  intro ps' cs cs' vs h ho hp hr;cases ps' with
  |nil=>exact hp.elim
  |cons p' ps'=>
   obtain ⟨i,t⟩:=p;obtain ⟨j,v⟩:=p';obtain ⟨rfl,h2,h3⟩:=hp;simp only [List.all_cons,zae] at ho;unfold pZ at h;split at h
   ·cases h
   ·rename_i off size hpl
    replace h:=ae h;obtain ⟨hb,h⟩:=h;replace hb:=af hb;obtain ⟨hb1,hb2⟩:=hb;have hc:=(h2.CK ho.1).2;have hl:=hc.length;have hl2:=hr.length;have e1:=beq_true hb1;have e2:=aB hb2;have hfold:(v.cells.zipIdx.foldl (fun cs (x:Value×Nat)=>cs.setIfInBounds (off+x.2) x.1) vs).toList=ay vs.toList off v.cells.toList:=by
     have:=gE off v.cells.toList 0 vs;rw [Nat.add_zero] at this;rw [←this]
     congr 1
     rw [←Array.foldl_toList,Array.toList_zipIdx]
    obtain ⟨vs',hf,hr'⟩:=ih (vs:=v.cells.zipIdx.foldl (fun cs (x:Value×Nat)=>cs.setIfInBounds (off+x.2) x.1) vs) h ho.2 h3 (by rw [hfold];exact hc.ay hr off);refine ⟨vs',?_,hr'⟩;unfold Instr.fill;rw [hpl];simp only;have hn:(v.cells.size≠size ||off+v.cells.size>vs.size)=false:=by
     rw [←Array.length_toList,←Array.length_toList,hl,hl2];simp;omega
    rw [hn];exact hf
theorem M3 (hs:aw P hint sh Γ Pu H I) {t:TypeId} {ps:List (Nat×TV)} {ps':List (Nat×Value)} (h:JD P H t ps K=some r) (hp:HF Γ Pu I ps ps'):Good P hint sh K r Γ Pu H I (aq (hZ P I t ps')):=by
 unfold JD at h;replace h:=ae h;obtain ⟨hb,h⟩:=h;simp only [hZ,hp.ok hb,if_true];split at h
 ·rename_i z hz
  replace h:=ae h;obtain ⟨hb2,h⟩:=h;have hzr:=dj (Γ:=Γ) (Pu:=Pu) (I:=I) hb2;split at h
  ·rename_i fs hu
   split at h
   ·rename_i places hpl
    split at h
    ·rename_i cells hf
     obtain ⟨vs',hf',hr'⟩:=iB hf hb hp hzr;simp only [hz,hu,hpl,hf',aq];exact Good.same hs h (.agg hr')
    ·cases h
   ·cases h
  ·rename_i n e hu
   split at h
   ·rename_i i hi
    split at h
    ·rename_i cells hf
     obtain ⟨vs',hf',hr'⟩:=iB hf hb hp hzr;simp only [hz,hu,hi,hf',aq];exact Good.same hs h (.agg hr')
    ·cases h
   ·cases h
  ·cases h
 ·cases h
theorem Uw (hs:aw P hint sh Γ Pu H I) {x:TV} {x':Value} (h:Wo H x K=some r) (hx:GR Γ Pu I x x'):Good P hint sh K r Γ Pu H I (aq (ek I x')):=by
 unfold Wo at h;split at h
 all_goals first
  |(cases hx;simp only [ek,aq];exact Good.same hs h (by constructor<;>assumption))
  |cases h
theorem GU {cs:List TV} {vs:List Value} {t:TypeId} {x:TV} {off:Nat} (hr:bK Γ Pu I cs vs) (h:fF P t (cs.drop off)=some x):∃ v,partOf P t vs off=some v/\GR Γ Pu I x v:=by
 unfold fF at h;unfold partOf;cases ha:eK P t with
 |none=>rw [ha] at h;cases h
 |some g=>
  rw [ha] at h;cases g with
  |true=>
   simp only at h ⊢;cases hi:P.info? t with
   |none=>rw [hi] at h;cases h
   |some i=>
    rw [hi] at h;simp only at h ⊢;obtain ⟨h1,h2⟩:=ae h;cases h2;exact ⟨_,rfl,.agg ((hr.drop off).take i.size)⟩
  |false=>
   simp only at h ⊢;cases hd:cs.drop off with
   |nil=>rw [hd] at h;cases h
   |cons c cs'=>
    rw [hd] at h;cases h;have:=hr.drop off;rw [hd] at this;obtain ⟨v,hv,hr'⟩:=this.get (i:=0) rfl;rw [List.getElem?_drop] at hv;exact ⟨v,by simpa using hv,hr'⟩
theorem Np (hs:aw P hint sh Γ Pu H I) {t:TypeId} {x:TV} {x':Value} {f:Nat} (h:Dj P H t x f K=some r) (hx:GR Γ Pu I x x'):Good P hint sh K r Γ Pu H I (aq (je P I t x' f)):=by
 unfold Dj at h;split at h
 ·rename_i fs cs hu
  cases hx with |agg hr=>
  split at h
  ·rename_i fd hfd
   split at h
   ·rename_i v hv
    obtain ⟨v',hp,hr'⟩:=GU (P:=P) hr hv;simp only [je,hu,hfd,hp,aq];exact Good.same hs h hr'
   ·cases h
  ·cases h
 ·cases h
theorem zr (hs:aw P hint sh Γ Pu H I) {s:TypeId} {x:TV} {x':Value} {f:Nat} (h:iX P H s x f K=some r) (hx:GR Γ Pu I x x'):Good P hint sh K r Γ Pu H I (aq (cD P I s x' f)):=by
 unfold iX at h;split at h
 ·rename_i fs hu
  split at h
  ·rename_i fd hfd
   split at h
   ·rename_i i hi
    cases hz:Nat.beq i.size 0 with
    |true=>rw [hz] at h;cases h
    |false=>
     rw [hz] at h;simp only [zab] at h;have hne:i.size≠0:=fun e=>by rw [e] at hz;cases hz
     split at h
     ·cases hx with |ptr a b=>
      simp only [cD,hu,hfd,hi,if_neg hne,aq];exact Good.same hs h (.ptr a b)
     ·rename_i cs
      cases hx with |oC a b c d=>
      simp only [cD,hu,hfd,hi,if_neg hne,aq];replace h:=ae h;obtain ⟨hb,h⟩:=h;have hl:=aB hb;refine Good.same hs h ?_;refine .oC a b (by simp;omega) ?_;have:=d.drop fd.offset;rw [List.drop_take,zah] at this;simpa using this
     ·rename_i id j off
      cases hx with |jd a b=>
      simp only [cD,hu,hfd,hi,if_neg hne,aq];have:=GR.jd (Γ:=Γ) (Pu:=Pu) (I:=I) (i:=j) (off:=off+fd.offset) a b;rw [←Nat.add_assoc] at this;exact Good.same hs h this
     ·cases h
   ·cases h
  ·cases h
 ·cases h
end
end Go.Gv
/- The pure evaluator's operations are the ideal one's (the third part): numbers, comparisons, conversions, looks into lists and texts. -/
namespace Go.Gv
open Go Go.Iv
section
variable {β:Type} {P:Program} {hint:Hint} {sh:cA} {Γ Γ1:bc} {Pu Pu1:Nat->Prop} {H H1:GH} {I I1:IH} {K:TV->GH->Option β} {r:β}
theorem dK {op:BinOp} {t:TypeId} {x y:Operand} {k k':IntKind} {n m q:Int} (h:bQ P (Go.binOp op t (.int k n) (.int k' m))=some (.int k q))
  (ho:(match op with | .eql | .neq | .lss | .leq | .gtr | .geq | .add | .sub=>false |_=>true)=true):aq (aD P I op t x y (.int k n) (.int k' m))=some (.int k q,I):=by
 cases op<;>first |(simp only [aD,h,aV,if_true,aq];done) |(cases ho;done)
theorem SV (hs:aw P hint sh Γ Pu H I) {op:BinOp} {t:TypeId} {x y:Operand} {k:IntKind} {n m:Int} (ho:op≠ .shl/\op≠ .shr) (h:SR dW H op k n m K=some r):Good P hint sh K r Γ Pu H I (aq (aD P I op t x y (.int k n) (.int k m))):=by
 unfold SR at h;cases op
 case shl=>exact absurd rfl ho.1
 case shr=>exact absurd rfl ho.2
 case eql=>simp only [aD,bT,if_true,aq];exact Good.same hs h (.bool _)
 case neq=>simp only [aD,bT,if_true,aq];exact Good.same hs h (.bool _)
 case lss=>simp only [aD,if_true,aq];exact Good.same hs h (.bool _)
 case leq=>simp only [aD,if_true,aq];exact Good.same hs h (.bool _)
 case gtr=>simp only [aD,if_true,aq];exact Good.same hs h (.bool _)
 case geq=>simp only [aD,if_true,aq];exact Good.same hs h (.bool _)
 case add=>simp only [aD,if_true,aq];exact Good.same hs h (.int _ _)
 case sub=>simp only [aD,if_true,aq];exact Good.same hs h (.int _ _)
 case mul=>rw [dK (UD P t k n m) rfl];exact Good.same hs h (.int _ _)
 case quo=>
  replace h:=aE h;obtain ⟨hb,h⟩:=h;rw [dK (Th P t k n m (by simpa using hb)) rfl];exact Good.same hs h (.int _ _)
 case rem=>
  replace h:=aE h;obtain ⟨hb,h⟩:=h;rw [dK (Ts P t k n m (by simpa using hb)) rfl];exact Good.same hs h (.int _ _)
 all_goals
  simp only at h;split at h
  ·rename_i q hq
   rw [dK (qa P t hq) rfl];exact Good.same hs h (.int _ _)
  ·cases h
theorem rS (hs:aw P hint sh Γ Pu H I) {op:BinOp} {t:TypeId} {x y:Operand} {k k':IntKind} {n m:Int} (h:wu dW H op k n m K=some r):Good P hint sh K r Γ Pu H I (aq (aD P I op t x y (.int k n) (.int k' m))):=by
 unfold wu at h;replace h:=aE h;obtain ⟨hb,h⟩:=h;have hm:=bh hb;split at h
 ·rw [dK (LA P t k k' n m hm) rfl];exact Good.same hs h (.int _ _)
 ·rw [dK (Lp P t k k' n m hm) rfl];exact Good.same hs h (.int _ _)
 ·cases h
theorem PY (hs:aw P hint sh Γ Pu H I) {op:BinOp} {t:TypeId} {x y:Operand} {a b:UInt8} (h:LI H op a b K=some r):Good P hint sh K r Γ Pu H I (aq (aD P I op t x y (.int .u8 a.toNat) (.int .u8 b.toNat))):=by
 unfold LI at h;split at h
 ·simp only [aD,bT,if_true,aq,Bool.false_eq_true,if_false,uZ];exact Good.same hs h (.bool _)
 ·have:((a.toNat:Int) !=(b.toNat:Int))=(a !=b):=by unfold bne;rw [uZ]
  simp only [aD,bT,if_true,aq,this];exact Good.same hs h (.bool _)
 ·simp only [aD,if_true,aq,Ke];exact Good.same hs h (.bool _)
 ·simp only [aD,if_true,aq,KT];exact Good.same hs h (.bool _)
 ·simp only [aD,if_true,aq,Ke];exact Good.same hs h (.bool _)
 ·simp only [aD,if_true,aq,KT];exact Good.same hs h (.bool _)
 ·simp only [aD,if_true,aq,RT];exact Good.same hs h (.byte _)
 ·simp only [aD,if_true,aq,PB];exact Good.same hs h (.byte _)
 ·rw [dK (qa P t (PD a b)) rfl];exact Good.same hs h (.byte _)
 ·rw [dK (qa P t (TZ a b)) rfl];exact Good.same hs h (.byte _)
 ·rw [dK (qa P t (SC a b)) rfl];exact Good.same hs h (.byte _)
 ·cases h
theorem n8 (hs:aw P hint sh Γ Pu H I) {op:BinOp} {t:TypeId} {x y:Operand} {k':IntKind} {a:UInt8} {m:Int} (h:pW dW H op a m K=some r):Good P hint sh K r Γ Pu H I (aq (aD P I op t x y (.int .u8 a.toNat) (.int k' m))):=by
 unfold pW at h;replace h:=aE h;obtain ⟨hb,h⟩:=h;have hm:=bh hb;have h8:IntKind.bits .u8=8:=rfl;split at h
 ·rw [dK (LA P t .u8 k' _ m hm) rfl]
  have e:IntKind.u8.wrap ((a.toNat:Int)*2^(min m.toNat (IntKind.bits .u8)))=((UInt8.ofNat (a.toNat*2^(min m.toNat 8))).toNat:Int):=by
   rw [wrap_u8,h8,UInt8.toNat_ofNat'];have:((a.toNat:Int)*2^(min m.toNat 8))=((a.toNat*2^(min m.toNat 8):Nat):Int):=by rw [Int.natCast_mul,Int.natCast_pow];rfl
   rw [this];omega
  rw [e];exact Good.same hs h (.byte _)
 ·rw [dK (Lp P t .u8 k' _ m hm) rfl]
  have e:(a.toNat:Int).fdiv (2^(min m.toNat (IntKind.bits .u8)))=((UInt8.ofNat (a.toNat / 2^(min m.toNat 8))).toNat:Int):=by
   rw [h8,UInt8.toNat_ofNat'];have h2:(2:Int)^(min m.toNat 8)=((2^(min m.toNat 8):Nat):Int):=by rw [Int.natCast_pow];rfl
   rw [h2,Int.fdiv_eq_ediv_of_nonneg _ (Int.natCast_nonneg _),←Int.natCast_ediv];have:=Nat.div_le_self a.toNat (2^(min m.toNat 8));have:=a.toNat_lt;rw [Nat.mod_eq_of_lt (by omega)]
  rw [e];exact Good.same hs h (.byte _)
 ·cases h
theorem nZ (s:List UInt8):bl (ba s)=s:=rfl
theorem TP (hs:aw P hint sh Γ Pu H I) {op:BinOp} {t:TypeId} {x y:Operand} {a b:List UInt8} (h:Tf dW H op a b K=some r):Good P hint sh K r Γ Pu H I (aq (aD P I op t x y (.string (ba a)) (.string (ba b)))):=by
 unfold Tf at h;split at h
 ·simp only [aD,bT,aq,Bool.false_eq_true,if_false,nZ];exact Good.same hs h (.bool _)
 ·simp only [aD,bT,aq,if_true,nZ];exact Good.same hs h (.bool _)
 ·simp only [aD,aq,nZ];exact Good.same hs h (.bool _)
 ·replace h:=aE h;obtain ⟨hb,h⟩:=h
  have hle:=aB hb;simp only [aD];rw [if_pos (show (ba a).size+(ba b).size<=roomy from hle)];exact Good.same hs h (.str _)
 ·cases h
theorem VM {v':Value} (hl:GR Γ Pu I Wy v'):v'= .slice none 0 0:=by
 cases hl;rfl
theorem lZ {e:Sh} {xs:List e.ty} {v:Value} (h:cy Pu I (.aJ e) xs [v]):∃ a l c,v= .slice a l c/\(si v=true->xs= [])/\si v=a.isNone:=by
 unfold cy at h;rcases h with ⟨h1,h2⟩ |⟨b,off,cap,cs,et,fz,ex,sd,h,_⟩ |⟨h1,b,h⟩
 ·cases h2;exact ⟨_,_,_,rfl,fun _=>h1,rfl⟩
 ·cases h;exact ⟨_,_,_,rfl,(fun h=>by cases h),rfl⟩
 ·cases h;exact ⟨_,_,_,rfl,(fun h=>by cases h),rfl⟩
theorem jX {t e:TypeId} (hu:P.underlying t=some (.slice e)) (a:Option Addr) (l c:Nat):ef P I t (.slice a l c) (.slice none 0 0)=some a.isNone:=by
 unfold ef;rw [hu];cases a<;>rfl
theorem iu {t e:TypeId} (hu:P.underlying t=some (.slice e)) (a:Option Addr) (l c:Nat):ef P I t (.slice none 0 0) (.slice a l c)=some a.isNone:=by
 unfold ef;rw [hu]
theorem N7 {neg:Bool} {t:TypeId} {x y:Operand} {a b:Value} {q:Bool} (h:ef P I t a b=some q) (ha:∀ k n,a≠ .int k n) (hb:∀ s,a≠ .string s):bT P I neg t x y a b=some (.val (.bool (if neg then !q else q)) I):=by
 unfold bT;split
 ·exact absurd rfl (ha _ _)
 ·exact absurd rfl (hb _)
 ·rw [h]
theorem fT.some {l:Loc} {off len:Nat} {v:Value} (h:fT l off len v):∃ a c,v= .slice a len c/\(a=none->len=0/\l.pos=none)/\(a≠none->l.pos≠none):=by
 unfold fT at h;split at h
 ·rename_i hp;obtain ⟨rfl,rfl⟩:=h;exact ⟨none,0,rfl,fun _=>⟨rfl,hp⟩,fun h=>absurd rfl h⟩
 ·rename_i b o hp;obtain ⟨cap,rfl,_⟩:=h;exact ⟨_,cap,rfl,(fun h=>by cases h),fun _ h=>by rw [h] at hp;cases hp⟩
theorem XL (neg:Bool) {t:TypeId} {x y:Operand} {a b:Value} {q:Bool} (h:bT P I neg t x y a b=some (.val (.bool q) I)):aq (aD P I (if neg then .neq else .eql) t x y a b)=some (.bool q,I):=by
 cases neg
 ·simp only [Bool.false_eq_true,if_false,aD,h,aq]
 ·simp only [if_true,aD,h,aq]
theorem A5 (hs:aw P hint sh Γ Pu H I) {neg:Bool} {t:TypeId} {x y:Operand} {a b:TV} {a' b':Value} (h:xv dW P H neg t a b K=some r) (ha:GR Γ Pu I a a') (hb:GR Γ Pu I b b'):
  Good P hint sh K r Γ Pu H I (aq (aD P I (if neg then .neq else .eql) t x y a' b')):=by
 have go:∀ {q:Bool},ef P I t a' b'=some q->(∀ k n,a'≠ .int k n)->(∀ s,a'≠ .string s)->K (.bool (if neg then !q else q)) H=some r->Good P hint sh K r Γ Pu H I (aq (aD P I (if neg then .neq else .eql) t x y a' b')):=by
  intro q h1 h2 h3 h4;rw [XL neg (N7 h1 h2 h3)];exact Good.same hs h4 (.bool _)
 unfold xv at h;split at h
 ·rename_i e _ _ _ c _ hu
  cases hb;cases ha with |aC he hn _=>
  obtain ⟨aa,l,cc,rfl,_,hnb⟩:=lZ he;refine go (jX hu aa l cc) (by intros;simp) (by intros;simp) ?_;rw [←hnb,hn c rfl];exact h
 ·rename_i e _ _ c _ hu
  cases ha;cases hb with |aC he hn _=>
  obtain ⟨aa,l,cc,rfl,_,hnb⟩:=lZ he;refine go (iu hu aa l cc) (by intros;simp) (by intros;simp) ?_;rw [←hnb,hn c rfl];exact h
 ·rename_i e _ xs _ hu
  cases hb;cases ha with |aC he hn _=>
  replace h:=aE h;obtain ⟨hx,h⟩:=h;obtain ⟨aa,l,cc,rfl,hn2,hnb⟩:=lZ he;refine go (jX hu aa l cc) (by intros;simp) (by intros;simp) ?_;have:aa.isNone=false:=by
   cases hq:aa.isNone with
   |false=>rfl
   |true=>rw [hn2 (hnb.trans hq)] at hx;cases hx
  rw [this];cases neg<;>exact h
 ·rename_i e _ xs _ hu
  cases ha;cases hb with |aC he hn _=>
  replace h:=aE h;obtain ⟨hx,h⟩:=h;obtain ⟨aa,l,cc,rfl,hn2,hnb⟩:=lZ he;refine go (iu hu aa l cc) (by intros;simp) (by intros;simp) ?_;have:aa.isNone=false:=by
   cases hq:aa.isNone with
   |false=>rfl
   |true=>rw [hn2 (hnb.trans hq)] at hx;cases hx
  rw [this];cases neg<;>exact h
 ·rename_i e _ id hu
  cases hb;cases ha with |all hl hv=>
  split at h
  ·rename_i et e' xs w fz em hg
   obtain ⟨l',hl',ho⟩:=hs.obj id _ hg;cases hl.symm.trans hl';obtain ⟨aa,c,rfl,h1,h2⟩:=hv.some;obtain ⟨o1,o2,o3,o4⟩:=ho;have hem:em= .ex->aa.isNone=xs.isEmpty:=fun hem=>by
    rcases o4 with ⟨p1,p2,_⟩ |⟨b,o,vs,f,ex,sd,p1,p2,_⟩
    ·cases aa with
     |none=>rw [p2];rfl
     |some a=>exact absurd p1 (h2 (by simp))
    ·cases aa with
     |none=>exact absurd (h1 rfl).2 (by rw [p1];simp)
     |some a=>
      have:=p2 hem;cases xs with
      |nil=>exact absurd rfl this
      |cons=>rfl
   have hne:(!xs.isEmpty)=true->aa.isNone=false:=fun hx=>by
    cases aa with
    |some a=>rfl
    |none=>
     have:=(h1 rfl).1;rw [o1] at this;rw [List.eq_nil_of_length_eq_zero this] at hx;cases hx
   cases em with
   |ex=>
    refine go (jX hu aa _ c) (by intros;simp) (by intros;simp) ?_;rw [hem rfl];exact h
   |any |no=>
    replace h:=aE h;obtain ⟨hx,h⟩:=h;refine go (jX hu aa _ c) (by intros;simp) (by intros;simp) ?_;rw [hne hx];cases neg<;>exact h
  ·cases h
 ·rename_i e _ id hu
  cases ha;cases hb with |all hl hv=>
  split at h
  ·rename_i et e' xs w fz em hg
   obtain ⟨l',hl',ho⟩:=hs.obj id _ hg;cases hl.symm.trans hl';obtain ⟨aa,c,rfl,h1,h2⟩:=hv.some;obtain ⟨o1,o2,o3,o4⟩:=ho;have hem:em= .ex->aa.isNone=xs.isEmpty:=fun hem=>by
    rcases o4 with ⟨p1,p2,_⟩ |⟨b,o,vs,f,ex,sd,p1,p2,_⟩
    ·cases aa with
     |none=>rw [p2];rfl
     |some a=>exact absurd p1 (h2 (by simp))
    ·cases aa with
     |none=>exact absurd (h1 rfl).2 (by rw [p1];simp)
     |some a=>
      have:=p2 hem;cases xs with
      |nil=>exact absurd rfl this
      |cons=>rfl
   have hne:(!xs.isEmpty)=true->aa.isNone=false:=fun hx=>by
    cases aa with
    |some a=>rfl
    |none=>
     have:=(h1 rfl).1;rw [o1] at this;rw [List.eq_nil_of_length_eq_zero this] at hx;cases hx
   cases em with
   |ex=>
    refine go (iu hu aa _ c) (by intros;simp) (by intros;simp) ?_;rw [hem rfl];exact h
   |any |no=>
    replace h:=aE h;obtain ⟨hx,h⟩:=h;refine go (iu hu aa _ c) (by intros;simp) (by intros;simp) ?_;rw [hne hx];cases neg<;>exact h
  ·cases h
 ·rename_i e _ _ len hu
  cases hb;cases ha with |own hl hle hv=>
  replace h:=aE h;obtain ⟨hx,h⟩:=h;obtain ⟨aa,c,rfl,h1,h2⟩:=hv.some;refine go (jX hu aa _ c) (by intros;simp) (by intros;simp) ?_;have:aa.isNone=false:=by
   cases aa with
   |some a=>rfl
   |none=>rw [(h1 rfl).1] at hx;cases hx
  rw [this];cases neg<;>exact h
 ·rename_i e _ _ len hu
  cases ha;cases hb with |own hl hle hv=>
  replace h:=aE h;obtain ⟨hx,h⟩:=h;obtain ⟨aa,c,rfl,h1,h2⟩:=hv.some;refine go (iu hu aa _ c) (by intros;simp) (by intros;simp) ?_;have:aa.isNone=false:=by
   cases aa with
   |some a=>rfl
   |none=>rw [(h1 rfl).1] at hx;cases hx
  rw [this];cases neg<;>exact h
 ·rename_i e hu
  cases ha;cases hb;refine go (iu hu none 0 0) (by intros;simp) (by intros;simp) ?_;cases neg<;>exact h
 ·rename_i e hu
  cases ha;cases hb;refine go (q:=true) (by unfold ef;rw [hu];rfl) (by intros;simp) (by intros;simp) ?_;cases neg<;>exact h
 ·rename_i e _ _ hu
  cases hb;cases ha;refine go (q:=false) (by unfold ef;rw [hu]) (by intros;simp) (by intros;simp) ?_;cases neg<;>exact h
 ·rename_i e _ _ hu
  cases ha;cases hb;refine go (q:=false) (by unfold ef;rw [hu];rfl) (by intros;simp) (by intros;simp) ?_;cases neg<;>exact h
 ·rename_i e id o id' o' hu
  replace h:=ae h;obtain ⟨hx,h⟩:=h;replace hx:=af hx;obtain ⟨hx,hx3⟩:=hx;replace hx:=af hx;obtain ⟨hx,hx2⟩:=hx;have hid:=beq_true hx;subst hid;cases ha with |ptr a1 a2=>
  cases hb with |ptr b1 b2=>
  cases a1.symm.trans b1;cases a2.symm.trans b2;rename_i b l;have hsome:(I.get b).isSome=true:=by
   cases hg:H.get id with
   |none=>rw [hg] at hx3;cases hx3
   |some ob=>
    obtain ⟨l',hl',ho⟩:=hs.obj id ob hg;cases a1.symm.trans hl';obtain ⟨io,hio⟩:=ho.Db (.inl ⟨_,a2⟩);rw [hio];rfl
  have hq:(o==o')=Nat.beq o o':=by rw [Bool.eq_iff_iff];simp [Nat.beq_eq]
  refine go (q:=Nat.beq o o') (by unfold ef;rw [hu];simp only [beq_self_eq_true,hx2,hsome,Bool.and_self,if_true,hq]) (by intros;simp) (by intros;simp) h
 ·rename_i hu
  cases hb;cases ha;refine go (q:=false) (by unfold ef;rw [hu]) (by intros;simp) (by intros;simp) ?_;cases neg<;>exact h
 ·rename_i hu
  cases ha;cases hb;refine go (q:=false) (by unfold ef;rw [hu]) (by intros;simp) (by intros;simp) ?_;cases neg<;>exact h
 ·rename_i hu
  cases ha;cases hb;refine go (q:=true) (by unfold ef;rw [hu]) (by intros;simp) (by intros;simp) ?_;cases neg<;>exact h
 ·rename_i hu
  cases ha;cases hb;refine go (q:=true) (by unfold ef;rw [hu];rfl) (by intros;simp) (by intros;simp) ?_;cases neg<;>exact h
 ·rename_i id hu
  cases hb;cases ha with |mp hl hv=>
  rename_i l;split at h
  ·rename_i kt gk ge ks es xs em hg
   obtain ⟨l',hl',ho⟩:=hs.obj id _ hg;cases hl.symm.trans hl';unfold SJ at hv;rcases ho with ⟨_,⟨hp,hx,hem⟩ |⟨b,ents,ck,hp,hro,hne,hgb,hent⟩⟩
   ·rw [hp] at hv;subst hv
    rw [hem,hx] at h;refine go (q:=true) (by unfold ef;rw [hu];rfl) (by intros;simp) (by intros;simp) ?_;cases neg<;>exact h
   ·rw [hp] at hv;subst hv
    refine go (q:=false) (by unfold ef;rw [hu]) (by intros;simp) (by intros;simp) ?_;cases em with
    |true=>
     have:xs.isEmpty=false:=by
      cases xs with
      |nil=>exact absurd rfl (hne rfl)
      |cons=>rfl
     rw [this] at h;cases neg<;>exact h
    |false=>cases neg<;>exact h
  ·cases h
 ·cases h
theorem J0 {t:TypeId} {d:TypeDesc} (h:P.underlying t=some d) (h1:∀ fs,d≠ .struct fs) (h2:∀ n e,d≠ .array n e):bQ P (isAgg t)=some false:=by
 unfold isAgg;rw [aP _ _ _ (bo h)];cases d<;>first |rfl |exact absurd rfl (h1 _) |exact absurd rfl (h2 _ _)
theorem rT {t:TypeId} {d:TypeDesc} (h:P.underlying t=some d) (h1:∀ fs,d≠ .struct fs) (h2:∀ n e,d≠ .array n e) {cs:Array Value} {off:Nat} {v:Value} (hv:cs[off]? =some v):bQ P (part t cs off)=some v:=by
 unfold part;rw [aP _ _ _ (J0 h h1 h2)];simp only [Bool.false_eq_true,if_false,hv];rfl
theorem TG {d:Nat} {t:TypeId} {a b:TV} {a' b':Value} {q:Bool} (h:Ej P t a b=some q) (ha:GR Γ Pu I a a') (hb:GR Γ Pu I b b'):
  bQ P (Op.equalIn (d+1) t a' b')=some q/\aV a'=true/\aV b'=true/\∃ e,P.underlying t=some e/\(∀ fs,e≠ .struct fs)/\(∀ n x,e≠ .array n x):=by
 unfold Ej at h;split at h
 ·cases ha;cases hb
  split at h
  ·rename_i hu
   split at h
   ·rename_i hk;subst hk;cases h
    refine ⟨?_,rfl,rfl,_,hu,(fun _ h=>by cases h),(fun _ _ h=>by cases h)⟩;unfold Op.equalIn;rw [aP _ _ _ (bo hu)];simp only [if_true];rfl
   ·cases h
  ·cases h
 ·cases ha;cases hb
  split at h
  ·rename_i hu
   cases h;refine ⟨?_,rfl,rfl,_,hu,(fun _ h=>by cases h),(fun _ _ h=>by cases h)⟩;unfold Op.equalIn;rw [aP _ _ _ (bo hu)];simp only [if_true];rw [←uZ];rfl
  ·cases h
 ·cases ha;cases hb
  split at h
  ·rename_i hu
   cases h;refine ⟨?_,rfl,rfl,_,hu,(fun _ h=>by cases h),(fun _ _ h=>by cases h)⟩;unfold Op.equalIn;rw [aP _ _ _ (bo hu)];rfl
  ·cases h
 ·cases ha;cases hb
  rename_i x y;split at h
  ·rename_i hu
   cases h;refine ⟨?_,rfl,rfl,_,hu,(fun _ h=>by cases h),(fun _ _ h=>by cases h)⟩;unfold Op.equalIn;rw [aP _ _ _ (bo hu)];have e:(ba x==ba y)=(x==y):=by
    show ((⟨x⟩:Array UInt8)==⟨y⟩)=(x==y)
    simp
   rw [←e];rfl
  ·cases h
 ·cases h
theorem LJ {d:Nat} {xs ys:Array Value}:∀ {fs:List Field} {i:Nat} {cs ds:List TV} {vs ws:List Value} {q:Bool},Jg P fs i cs ds=some q->bK Γ Pu I cs vs->bK Γ Pu I ds ws->xs.toList.drop i=vs->ys.toList.drop i=ws->
  bQ P (Op.eqFields (d+1) xs ys fs)=some q/\vs.all aV=true/\ws.all aV=true:=by
 intro fs
 induction fs with
 |nil=>
  intro i cs ds vs ws q h hc hd _ _;cases hc with
  |nil=>
   cases hd with
   |nil=>cases h;exact ⟨rfl,rfl,rfl⟩
   |cons _ _=>cases h
  |cons _ _=>cases h
 |cons f r ih=>
  intro i cs ds vs ws q h hc hd hx hy;cases hc with
  |nil=>cases h
  |cons ha hc=>
   cases hd with
   |nil=>cases h
   |cons hb hd=>
    rename_i a as v vs b bs w ws;unfold Jg at h;replace h:=ae h;obtain ⟨hn,h⟩:=h;replace hn:=af hn;have hname : f.name ≠ "_" := by simpa using hn.1
    have hoff:f.offset=i:=beq_true hn.2;split at h
    ·rename_i p q' h1 h2
     cases h;obtain ⟨e1,e2,e3,e,hu,n1,n2⟩:=TG (d:=d) h1 ha hb;have hxi:xs[f.offset]? =some v:=by
      rw [hoff,←Array.getElem?_toList,←List.head?_drop,hx];rfl
     have hyi:ys[f.offset]? =some w:=by
      rw [hoff,←Array.getElem?_toList,←List.head?_drop,hy];rfl
     have hx2:xs.toList.drop (i+1)=vs:=by rw [←zah,hx];rfl
     have hy2:ys.toList.drop (i+1)=ws:=by rw [←zah,hy];rfl
     obtain ⟨k1,k2,k3⟩:=ih h2 hc hd hx2 hy2;refine ⟨?_,by simp [e2,k2],by simp [e3,k3]⟩;simp only [Op.eqFields,if_pos hname];rw [aP _ _ _ (rT hu n1 n2 hxi),aP _ _ _ (rT hu n1 n2 hyi),aP _ _ _ e1];cases p with
     |true=>simp only [Bool.not_true,Bool.false_eq_true,if_false,Bool.true_and];exact k1
     |false=>rfl
    ·cases h
theorem z7 (hs:aw P hint sh Γ Pu H I) {neg:Bool} {t:TypeId} {x y:Operand} {cs ds:List TV} {vs ws:List Value} (h:xr P H neg t cs ds K=some r) (ha:bK Γ Pu I cs vs) (hb:bK Γ Pu I ds ws):
  Good P hint sh K r Γ Pu H I (aq (aD P I (if neg then .neq else .eql) t x y (.agg ⟨vs⟩) (.agg ⟨ws⟩))):=by
 unfold xr at h;split at h
 ·rename_i fs hu
  replace h:=ae h;obtain ⟨hg,h⟩:=h;replace hg:=af hg;have h1:P.stoodInHeld t=false:=by simpa using hg.1
  have h2:P.eqGuardType P.depth t=false:=by simpa using hg.2
  split at h
  ·rename_i q hq
   obtain ⟨k1,k2,k3⟩:=LJ (d:=9998) (xs:=⟨vs⟩) (ys:=⟨ws⟩) hq ha hb rfl rfl;have he:bQ P (Op.equal t (.agg ⟨vs⟩) (.agg ⟨ws⟩))=some q:=by
    unfold Op.equal
    show bQ P (Op.equalIn (9999+1) t (.agg ⟨vs⟩) (.agg ⟨ws⟩))=_
    unfold Op.equalIn;rw [aP _ _ _ (bo hu)];simp only [];rw [aP _ _ _ (hY P),h1];simp only [Bool.false_eq_true,if_false];rw [←Array.forIn_toList];exact (sY 9999 ⟨vs⟩ ⟨ws⟩ fs.toList).trans k1
   have guard:∀ op,bQ P (eqGuard op t x y (.agg ⟨vs⟩) (.agg ⟨ws⟩))=some ():=by
    intro op;unfold eqGuard;cases op<;>first |rfl |(simp only [Bool.not_true,Bool.false_eq_true,if_false];rw [aP _ _ _ (hY P)];rw [aP _ _ _ (hY P)];rw [h2];rfl)
   have ne:ef P I t (.agg ⟨vs⟩) (.agg ⟨ws⟩)=none:=by unfold ef;rw [hu]
   have fr:(free (.agg ⟨vs⟩) &&free (.agg ⟨ws⟩))=true:=by
    show (vs.all aV &&ws.all aV)=true
    rw [k2,k3];rfl
   cases neg with
   |false=>
    have hr:bQ P (do eqGuard .eql t x y (.agg ⟨vs⟩) (.agg ⟨ws⟩);Go.binOp .eql t (.agg ⟨vs⟩) (.agg ⟨ws⟩))=some (.bool q):=by
     rw [aP _ _ _ (guard .eql)];unfold Go.binOp;exact (aP P _ _ he).trans rfl
    have:aD P I .eql t x y (.agg ⟨vs⟩) (.agg ⟨ws⟩)=some (.val (.bool q) I):=by
     simp only [aD,bT,ne,fr,if_true,Bool.false_eq_true,if_false,hr,aV]
    simp only [Bool.false_eq_true,if_false,this];exact Good.same hs h (.bool _)
   |true=>
    have hr:bQ P (do eqGuard .neq t x y (.agg ⟨vs⟩) (.agg ⟨ws⟩);Go.binOp .neq t (.agg ⟨vs⟩) (.agg ⟨ws⟩))=some (.bool (!q)):=by
     rw [aP _ _ _ (guard .neq)];unfold Go.binOp;exact (aP P _ _ he).trans rfl
    have:aD P I .neq t x y (.agg ⟨vs⟩) (.agg ⟨ws⟩)=some (.val (.bool (!q)) I):=by
     simp only [aD,bT,ne,fr,if_true,hr,aV]
    simp only [if_true,this];exact Good.same hs h (.bool _)
  ·cases h
 ·cases h
theorem UL (hs:aw P hint sh Γ Pu H I) {op:BinOp} {t:TypeId} {x y:Operand} {a b:TV} {a' b':Value} (h:Tx dW P H op t a b K=some r) (ha:GR Γ Pu I a a') (hb:GR Γ Pu I b b'):
  Good P hint sh K r Γ Pu H I (aq (aD P I op t x y a' b')):=by
 unfold Tx at h;split at h
 ·cases ha;cases hb
  split at h
  ·exact rS hs h
  ·exact rS hs h
  ·rename_i h1 h2
   split at h
   ·rename_i hk;subst hk
    exact SV hs ⟨fun e=>h1 e,fun e=>h2 e⟩ h
   ·cases h
 ·cases ha;cases hb
  split at h
  ·exact n8 hs h
  ·exact n8 hs h
  ·exact PY hs h
 ·cases ha;cases hb;exact n8 hs h
 ·cases ha;cases hb;exact rS hs h
 ·cases ha;cases hb;exact TP hs h
 ·cases ha;cases hb
  rename_i p q;have ne:ef P I t (.bool p) (.bool q)=none:=by unfold ef;split<;>first |rfl |(rename_i hh;cases hh) |contradiction
  split at h
  ·rename_i hu
   have:aD P I .eql t x y (.bool p) (.bool q)=some (.val (.bool (p==q)) I):=by
    simp only [aD,bT,ne,free,aV,Bool.and_self,if_true,Bool.false_eq_true,if_false,G9 hu]
   rw [this];exact Good.same hs h (.bool _)
  ·rename_i hu
   have:aD P I .neq t x y (.bool p) (.bool q)=some (.val (.bool (!(p==q))) I):=by
    simp only [aD,bT,ne,free,aV,Bool.and_self,if_true,Ec hu]
   rw [this];exact Good.same hs h (.bool _)
  ·cases h
 ·cases ha with |agg ha=>
  cases hb with |agg hb=>
  split at h
  ·exact z7 (neg:=false) hs h ha hb
  ·exact z7 (neg:=true) hs h ha hb
  ·cases h
 ·split at h
  ·exact A5 (neg:=false) hs h ha hb
  ·exact A5 (neg:=true) hs h ha hb
  ·cases h
theorem VH (hs:aw P hint sh Γ Pu H I) {op:UnOp} {a:TV} {a':Value} (h:X7 H op a K=some r) (ha:GR Γ Pu I a a'):Good P hint sh K r Γ Pu H I (aq (EG P I op a')):=by
 unfold X7 at h;split at h
 ·cases ha;exact Good.same hs h (.bool _)
 ·cases ha
  rename_i k n;have:bQ P (Op.unary .neg (.int k n))=some (.int k (k.wrap (0 - n))):=rfl;simp only [EG,this,aV,if_true,aq];exact Good.same hs h (.int _ _)
 ·cases h
end
end Go.Gv
/- The pure evaluator's operations are the ideal one's (the fourth part): lists, texts. -/
namespace Go.Gv
open Go Go.Iv
section
variable {β:Type} {P:Program} {hint:Hint} {sh:cA} {Γ Γ1:bc} {Pu Pu1:Nat->Prop} {H H1:GH} {I I1:IH} {K:TV->GH->Option β} {r:β}
theorem aw.Kt (hs:aw P hint sh Γ Pu H I) (cs:List Value) (et:TypeId) (fz:Nat) (ex sd:Bool):
  aw P hint sh Γ (fun b=>Pu b∨b=I.n) H (I.new (.cells cs et fz ex sd))/\Ex (bx Γ H I) Γ Pu H I Γ (fun b=>Pu b∨b=I.n) H (I.new (.cells cs et fz ex sd)):=by
 have getold:∀ b,b<I.n->(I.new (.cells cs et fz ex sd)).get b=I.get b:=fun b hb=>by rw [IH.az,if_neg (Nat.ne_of_lt hb)]
 have hk:cH Γ Pu I Γ (fun b=>Pu b∨b=I.n) (I.new (.cells cs et fz ex sd)):=⟨fun _ _ h=>h,fun _ h=> .inl h,fun b hb=>getold b (hs.jh hb)⟩;have hpos:∀ id o l b x,H.get id=some o->o.dh=true->Γ id=some l->l.pos=some (b,x)->(I.new (.cells cs et fz ex sd)).get b=I.get b:=fun id o l b x hg hm hl hp=>getold b (hs.cq (.pos hg hm hl hp))
 refine ⟨⟨?_,hs.NX hpos,?_,hs.bj,?_,?_,Nat.le_succ_of_le hs.ro,hs.gn,hs.cE,hs.st,hs.oE hk.p hk.i⟩,⟨fun _ _ h=>h,zai _,Nat.le_succ _,fun _ h=> .inl h,fun b hb _=>getold b hb,fun b _ h=>pF hpos h,?_,zai _,fun _ _=> .inr (.inl rfl),?_⟩⟩
 ·intro id o hg
  obtain ⟨l,hl,_⟩:=hs.obj id o hg;exact ⟨l,hl,hs.dR hk hg hl fun hm b hat=>getold b (hs.cq ⟨id,o,l,hg,hm,hl,hat⟩)⟩
 ·intro b hb hpu
  rcases hpu with h |h
  ·exact hs.sep b (pF hpos hb) h
  ·have:=hs.cq (pF hpos hb);omega
 ·intro b hb
  have hb':I.n+1<=b:=hb;rw [IH.az,if_neg (by omega)];exact hs.fresh b (by omega)
 ·intro b hb
  rcases hb with h |h
  ·obtain ⟨cs,et,fz,ex,sd,hg⟩:=hs.pu b h
   exact ⟨cs,et,fz,ex,sd,(getold b (hs.lt hg)).trans hg⟩
  ·subst h;exact ⟨cs,et,fz,ex,sd,by rw [IH.az,if_pos rfl]⟩
 ·intro b hb h
  rcases h with h |h
  ·exact .inl h
  ·omega
 ·intro id l b x s h1 _ hl hp
  exact hs.eC hk h1 hl hp fun o hg hm=>hpos id o l b x hg hm hl hp
theorem Row.byte:∀ {xs:List UInt8} {vs:List Value},Row Pu I .byte xs vs 0->vs.length=xs.length->vs=xs.map fun c=> .int .u8 c.toNat:=by
 intro xs
 induction xs with
 |nil=>intro vs _ h;exact List.eq_nil_of_length_eq_zero h
 |cons c xs ih=>
  intro vs hr hl;cases vs with
  |nil=>cases hl
  |cons v vs=>
   have h0:cy Pu I .byte c _:=hr 0 c rfl;simp only [Sh.sz,Nat.zero_mul,Nat.add_zero,List.drop_zero] at h0;unfold cy at h0;simp at h0;subst h0;rw [List.map_cons,←ih (vs:=vs)]
   ·intro i x hi
    have:=hr (i+1) x hi;simp only [Sh.sz,Nat.mul_one,Nat.zero_add,List.drop_succ_cons] at this ⊢;exact this
   ·simpa using hl
theorem sD {s:List UInt8}:Row Pu I .byte s (s.map fun c=>(.int .u8 c.toNat:Value)) 0:=by
 intro i x hi;simp only [Sh.sz,Nat.mul_one,Nat.zero_add];unfold cy;rw [←List.map_drop,←List.map_take];have:(s.drop i).take 1= [x]:=by
  rw [List.getElem?_eq_some_iff] at hi;obtain ⟨h1,h2⟩:=hi;rw [List.drop_eq_getElem_cons h1,h2];rfl
 rw [this];rfl
structure HI (Pu:Nat->Prop) (I:IH) (e:Sh) (xs:List e.ty) (v:Value):Prop where
 len:∃ a c,v= .slice a xs.length c
 cells:∃ cs,bJ I e.sz xs.length v=some cs/\cs.length=xs.length*e.sz/\Row Pu I e xs cs 0
theorem LB {e:Sh} {xs:List e.ty} {b off cap:Nat} {vs:List Value} {et:TypeId} {fz:Nat} {ex sd:Bool} (hg:I.get b=some (.cells vs et fz ex sd)) (hl:off+xs.length*e.sz<=vs.length) (hr:Row Pu I e xs vs off):
  HI Pu I e xs (.slice (some ⟨b,off,none⟩) xs.length cap):=
 ⟨⟨_,_,rfl⟩,(vs.drop off).take (xs.length*e.sz),by
  simp only [bJ,IH.bq,hg,if_pos hl];by_cases h0:xs.length=0
  ·rw [if_pos h0,h0,Nat.zero_mul,List.take_zero]
  ·rw [if_neg h0],by simp;omega,hr.cut _ (zai _)⟩
theorem Mz {e:Sh} {b cap:Nat}:HI Pu I e ([]:List e.ty) (.slice (some ⟨b,0,none⟩) 0 cap):=
 ⟨⟨_,_,rfl⟩,[],by simp only [bJ,List.length_nil,if_true],by simp,fun i x h=>by cases h⟩
theorem xa {e:Sh}:HI Pu I e ([]:List e.ty) (.slice none 0 0):=
 ⟨⟨_,_,rfl⟩,[],rfl,by simp,fun i x h=>by cases h⟩
theorem cy.Ni {e:Sh} {xs:List e.ty} {v:Value} (h:cy Pu I (.aJ e) xs [v]):HI Pu I e xs v:=by
 unfold cy at h;rcases h with ⟨rfl,h⟩ |⟨b,off,cap,cs,et,fz,ex,sd,h,hb,hg,hc,hl,hx⟩ |⟨rfl,b,h⟩
 ·cases h;exact xa
 ·cases h;exact LB hg hl hx
 ·cases h;exact Mz
theorem OR.Ni {l:Loc} {et:TypeId} {e:Sh} {xs:List e.ty} {w fz:Bool} {em:Em} (ho:OR P hint Γ Pu I l (.arr et e xs w fz em)) {off len:Nat} (hle:off+len<=xs.length) {v:Value} (hv:fT l off len v):HI Pu I e ((xs.drop off).take len) v:=by
 obtain ⟨h1,h2,h3,⟨hp,hx,_⟩ |⟨b,o,vs,f,ex,sd,hp,he,hg2,ht,hlen,hx,_,_⟩⟩:=ho
 ·unfold fT at hv;rw [hp] at hv
  obtain ⟨rfl,rfl⟩:=hv;rw [List.take_zero];exact xa
 ·unfold fT at hv;rw [hp] at hv
  obtain ⟨cap,rfl,hc⟩:=hv;have hlen':((xs.drop off).take len).length=len:=by simp;omega
  have hr:Row Pu I e xs vs o:=hx;have:=LB (cap:=cap) hg2 (off:=o+off*e.sz) (xs:=(xs.drop off).take len) (by
   rw [hlen'];have:(off+len)*e.sz<=xs.length*e.sz:=Nat.mul_le_mul_right _ hle;rw [zag] at this;omega) (hr.part off len)
  rw [hlen'] at this;rw [h2];exact this
inductive Jm (Pu:Nat->Prop) (I:IH) (s:Sh) (ys:List s.ty) (v:Value):Prop
 |mk (n:Nat) (cs:List Value):dA v=some n->n=ys.length->bJ I s.sz n v=some cs->cs.length=ys.length*s.sz->Row Pu I s ys cs 0->((∃ a c,v= .slice a n c)∨∃ t,v= .string t)->Jm Pu I s ys v
theorem HI.spread {e:Sh} {xs:List e.ty} {v:Value} (h:HI Pu I e xs v):Jm Pu I e xs v:=by
 obtain ⟨⟨a,c,rfl⟩,cs,h1,h2,h3⟩:=h;exact .mk xs.length cs rfl rfl h1 h2 h3 (.inl ⟨a,c,rfl⟩)
theorem xc (hs:aw P hint sh Γ Pu H I) {s:Sh} {x:TV} {x':Value} {ys:List s.ty} (h:mU H s x=some ys) (hx:GR Γ Pu I x x'):Jm Pu I s ys x':=by
 unfold mU at h;split at h
 ·cases h;cases hx;exact xa.spread
 ·split at h
  ·rename_i hh _;subst hh;cases h;cases hx with |aC he _ _=>exact he.Ni.spread
  ·cases h
 ·split at h
  ·rename_i et e xs w fz em hg
   split at h
   ·rename_i hh _;subst hh;cases h
    cases hx with |all hl hv=>
    obtain ⟨l',hl',ho⟩:=hs.obj _ _ hg;cases hl.symm.trans hl';have h1:=ho.1;rw [h1] at hv;have:=ho.Ni (off:=0) (len:=xs.length) (by omega) hv;simp only [List.drop_zero,List.take_length] at this;exact this.spread
   ·cases h
  ·cases h
 ·split at h
  ·rename_i et e xs w fz em hg
   split at h
   ·rename_i hh _;subst hh;cases h
    cases hx with |own hl hle hv=>
    obtain ⟨l',hl',ho⟩:=hs.obj _ _ hg;cases hl.symm.trans hl';rw [ho.1] at hle;exact (ho.Ni hle hv).spread
   ·cases h
  ·cases h
 ·split at h
  ·rename_i t _ hh _;subst hh;cases h;cases hx
   exact .mk t.length (t.map fun c=> .int .u8 c.toNat) rfl rfl (by simp [bJ,nZ]) (by simp [Sh.sz];rfl) sD (.inr ⟨_,rfl⟩)
  ·cases h
 ·cases h
theorem Sq (s:ByteArray):ba (bl s)=s:=rfl
theorem GR.strOf (s:ByteArray):GR Γ Pu I (.str (bl s)) (.string s):=GR.str (bl s)
theorem tW:∀ s:List UInt8,bytesOf (s.map fun c=>(.int .u8 c.toNat:Value))=some s:=by
 intro s
 induction s with
 |nil=>rfl
 |cons c s ih=>
  have h1:Iv.byteOf (.int .u8 (c.toNat:Int))=some c:=by simp [Iv.byteOf]
  simp only [List.map_cons,bytesOf,h1,ih]
theorem CS (hs:aw P hint sh Γ Pu H I) {e:TypeId} {x:TV} {x':Value} (h:rX P H e x K=some r) (hx:GR Γ Pu I x x') (hn:∀ s,x≠ .str s):Good P hint sh K r Γ Pu H I (aq (db P I e x')):=by
 unfold rX at h;split at h
 ·rename_i hu
  split at h
  ·rename_i s hse
   obtain ⟨n,cs,h1,h2,h3,h4,h5,h6⟩:=xc hs hse hx;rcases h6 with ⟨a,c,rfl⟩ |⟨t,rfl⟩
   ·subst h2
    have hcs:=h5.byte (by simpa [Sh.sz] using h4);cases a with
    |none=>
     have:s= []:=by
      cases hl:s.length with
      |zero=>exact List.eq_nil_of_length_eq_zero hl
      |succ k=>rw [hl] at h3;cases c<;>cases h3
     subst this;simp only [db,hu,aq];exact Good.same hs h (.str [])
    |some a=>
     obtain ⟨b,off,p⟩:=a;cases p with
     |some _=>cases h3
     |none=>
      by_cases hz:s.length=0
      ·have:s= []:=List.eq_nil_of_length_eq_zero hz
       subst this;simp only [db,hu,List.length_nil,if_true,aq];exact Good.same hs h (.str [])
      ·simp only [bJ,Sh.sz,Nat.mul_one,if_neg hz] at h3
       simp only [db,hu,if_neg hz,h3,hcs,tW,aq];exact Good.same hs h (.str s)
   ·cases hx with
    |str s=>exact absurd rfl (hn s)
    |raw v=>simp [mU] at hse
    |undef v=>simp [mU] at hse
    |aC he _ _=>obtain ⟨⟨_,_,hh⟩,_⟩:=he.Ni;cases hh
    |all _ hv=>obtain ⟨_,_,hh,_⟩:=hv.some;cases hh
    |own _ _ hv=>obtain ⟨_,_,hh,_⟩:=hv.some;cases hh
    |mp _ hv=>obtain ⟨_,hh⟩:=hv.map;cases hh
  ·cases h
 ·cases h
theorem HC (hs:aw P hint sh Γ Pu H I) {src dst:TypeId} {x:TV} {x':Value} (h:pV P H src dst x K=some r) (hx:GR Γ Pu I x x'):Good P hint sh K r Γ Pu H I (aq (bb P I src dst x')):=by
 unfold pV at h;split at h
 ·rename_i ks k hu hv
  split at h
  ·cases hx
   rename_i k0 n;by_cases hk:k= .u8
   ·subst hk
    simp only [zac] at h;simp only [bb,hu,hv,aq];have:=GR.byte (Γ:=Γ) (Pu:=Pu) (I:=I) (UInt8.ofNat (IntKind.u8.wrap n).toNat);rw [Ub] at this;exact Good.same hs h this
   ·have h':K (wr k n) H=some r:=by cases k<;>first |exact absurd rfl hk |exact h
    simp only [bb,hu,hv,aq];exact Good.same hs h' (.int _ _)
  ·cases hx
   rename_i c;by_cases hk:k= .u8
   ·subst hk
    simp only [zac] at h;simp only [bb,hu,hv,aq,NL];exact Good.same hs h (.byte _)
   ·have h':K (wr k c.toNat) H=some r:=by cases k<;>first |exact absurd rfl hk |exact h
    simp only [bb,hu,hv,aq];exact Good.same hs h' (.int _ _)
  ·cases h
 ·rename_i ks hu hv
  split at h
  ·cases hx
   simp only [bb,hu,hv,aq];exact Good.same hs h (.strOf _)
  ·cases hx
   simp only [bb,hu,hv,aq];exact Good.same hs h (.strOf _)
  ·cases h
 ·rename_i hu hv
  split at h
  ·cases hx
   simp only [bb,hu,hv,aq];exact Good.same hs h (.str _)
  ·cases h
 ·rename_i e hu hv
  split at h
  ·rename_i s hue
   cases hx;simp only [bb,hu,hv,fk,hue,aq];obtain ⟨s1,e1⟩:=hs.Kt ((bl (ba s)).map fun c=> .int .u8 c.toNat) e 0 false true;refine ⟨_,_,_,_,_,_,h,rfl,.aC ?_ (fun c hc=>by cases hc;rfl) (fun hc=>by cases hc),s1,e1⟩;refine .inr (.inl ⟨I.n,0,eE+1,_,e,0,false,true,rfl,.inr rfl,by rw [IH.az,if_pos rfl],.inl (by simp only [Sh.sz]),?_,?_⟩)
   ·simp [Sh.sz,nZ]
   ·exact sD
  ·cases h
 ·rename_i e hu hv
  split at h
  ·cases h
  ·rename_i hn
   simp only [bb,hu,hv];exact CS hs h hx fun s he=>hn s he
 ·rename_i t hu hv
  split at h
  ·rename_i id off
   cases hx with |ptr hl hp=>
   split at h
   ·rename_i et cs w hg
    replace h:=ae h;obtain ⟨hb,h⟩:=h;replace hb:=af hb;obtain ⟨hb1,hb2⟩:=hb;obtain ⟨l',hl',ho⟩:=hs.obj _ _ hg;cases hl.symm.trans hl';obtain ⟨b',vs,fz,ex,sd,hp',hgb,hr,_⟩:=ho;cases hp.symm.trans hp';have h1:P.cellsOf t≠0:=fun e=>by rw [e] at hb1;cases hb1
    have h2:off<vs.length:=by rw [hr.length];exact cf hb2
    have hc:(P.cellsOf t !=0 &&decide (off<vs.length))=true:=by simp [h1,h2]
    simp only [bb,hu,hv,dP,hgb,hc,if_true,aq];exact Good.same hs h (.ptr hl hp)
   ·cases h
  ·cases hx
   simp only [bb,hu,hv,dP,aq];exact Good.same hs h (.raw _)
  ·cases h
 ·rename_i u hu hv
  split at h
  ·rename_i id off
   cases hx with |ptr hl hp=>
   split at h
   ·rename_i et cs hg
    replace h:=ae h;obtain ⟨hb,h⟩:=h;replace hb:=af hb;obtain ⟨hb1,hb2⟩:=hb;obtain ⟨l',hl',ho⟩:=hs.obj _ _ hg;cases hl.symm.trans hl';obtain ⟨b',vs,fz,ex,sd,hp',hgb,hr,hw,_⟩:=ho;cases hp.symm.trans hp';have h1:P.cellsOf u≠0:=fun e=>by rw [e] at hb1;cases hb1
    obtain ⟨_,_,w3,_⟩:=hw rfl;subst w3;rw [←hr.length] at hb2;have hc:(P.cellsOf u !=0 &&liesAt P P.depth et (vs.length / P.cellsOf et) off u 1)=true:=by simp [h1,hb2]
    simp only [bb,hu,hv,cY,hgb,hc,if_true,aq];exact Good.same hs h (.ptr hl hp)
   ·cases h
  ·cases hx
   simp only [bb,hu,hv,cY,aq];exact Good.same hs h (.raw _)
  ·cases h
 ·cases h
end
end Go.Gv
