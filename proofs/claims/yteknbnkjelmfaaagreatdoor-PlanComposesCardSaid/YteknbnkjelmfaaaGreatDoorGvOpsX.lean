/- The pure evaluator's operations are the ideal one's (the first part): memory. -/
import Derived.Test.YteknbnkjelmfaaaGreatDoorIvFastA
import Derived.Laws.StructEq
set_option linter.unusedSimpArgs false
set_option linter.unusedVariables false
namespace Go.Gv
open Go Go.Iv
def an:Option az->Option (Value×IH)
 |some (.val v H)=>some (v,H)
 |some (.skip H)=>some (Go.undef,H)
 |_=>none
section
variable {Z:Type} {P:Program} {hint:Hint} {sh:bU} {Γ Γ1:aN} {Pu Pu1:Nat->Prop} {H H1:GH} {I I1:IH} {K:TV->GH->Option Z} {r:Z}
def Good (P:Program) (hint:Hint) (sh:bU) (K:TV->GH->Option Z) (r:Z) (Γ:aN) (Pu:Nat->Prop) (H:GH) (I:IH) (run:Option (Value×IH)):Prop:=
 ∃ t H1 Γ1 Pu1 v I1,K t H1=some r/\run=some (v,I1)/\GR Γ1 Pu1 I1 t v/\au P hint sh Γ1 Pu1 H1 I1/\Ex (bk Γ H I) Γ Pu H I Γ1 Pu1 H1 I1
theorem Good.same (hs:au P hint sh Γ Pu H I) {t:TV} {v:Value} (h:K t H=some r) (hr:GR Γ Pu I t v):Good P hint sh K r Γ Pu H I (some (v,I)):=
 ⟨t,H,Γ,Pu,v,I,h,rfl,hr,hs,Ex.refl hs⟩
theorem aE {b:Bool} {x:Option Z} (h:dS.eF b x=some r):b=true/\x=some r:=by
 cases b with
 |true=>exact ⟨rfl,h⟩
 |false=>cases h
theorem ad {b:Bool} {x:Option Z} (h:(bif b then x else none)=some r):b=true/\x=some r:=by
 grind
theorem ef {α:Type} {o:Option α} {k:α->Option Z} (h:dS.opt o k=some r):∃ a,o=some a/\k a=some r:=by
 cases o with
 |none=>cases h
 |some a=>exact ⟨a,rfl,h⟩
theorem jX {b:Bool} {x y:Option Z} (h:dS.Rr b x y=some r):(b=true/\x=some r)\/(b=false/\y=some r):=by
 cases b with
 |true=>exact .inl ⟨rfl,h⟩
 |false=>exact .inr ⟨rfl,h⟩
theorem ae {a b:Bool} (h:(a &&b)=true):a=true/\b=true:=by simpa using h
theorem beq_true {a b:Nat} (h:Nat.beq a b=true):a=b:=Nat.eq_of_beq_eq_true h
theorem aF {a b:Nat} (h:Nat.ble a b=true):a<=b:=Nat.le_of_ble_eq_true h
theorem c7 {a b:Nat} (h:Nat.blt a b=true):a<b:=Nat.le_of_ble_eq_true h
theorem bM {a b:Int} (h:ak a b=true):a<=b:=by rw [dn] at h;grind
theorem ly {a b:Int} (h:aD a b=true):a<b:=by rw [fu] at h;grind
theorem iA {bs:List Value} {et:TypeId} {fz:Nat} {ex sd:Bool} {b off:Nat} {cs:List TV} {t:TypeId} {x:TV} (hg:I.get b=some (.cells bs et fz ex sd)) (hl:off+cs.length<=bs.length) (hr:br Γ Pu I cs ((bs.drop off).take cs.length))
  (h:eO P t cs=some x):∃ v,l7 P I t b off=some v/\GR Γ Pu I x v:=by
 unfold eO at h;unfold l7;cases ha:gI P t with
 |none=>grind
 |some g=>
  rw [ha] at h;cases g with
  |true=>
   simp only at h ⊢;cases hi:P.info? t with
   |none=>grind
   |some i=>
    rw [hi] at h;simp only at h ⊢;obtain ⟨h1,h2⟩:=ad h;cases h2;have hle:=aF h1;have hc:I.bf b off i.size=some ((bs.drop off).take i.size):=by
     unfold IH.bf;rw [hg];simp only;rw [if_pos (by omega)]
    rw [hc];refine ⟨_,rfl,?_⟩;have:=hr.take i.size;rw [List.take_take,Nat.min_eq_left hle] at this;exact .agg this
  |false=>
   simp only at h ⊢;rw [hg];simp only;cases cs with
   |nil=>cases h
   |cons c cs=>
    cases h;obtain ⟨v,hv,hr'⟩:=hr.get (i:=0) rfl
    grind
theorem br.whole {cs:List TV} {bs:List Value} (h:br Γ Pu I cs bs) (off:Nat) (hle:off<=cs.length):off+(cs.drop off).length<=bs.length/\br Γ Pu I (cs.drop off) ((bs.drop off).take (cs.drop off).length):=by
 have hl:=h.length;have:(bs.drop off).take (cs.drop off).length=bs.drop off:=List.take_of_length_le (by simp;omega);rw [this];exact ⟨by simp;omega,h.drop off⟩
theorem xO {l:Loc} {et:TypeId} {e:Sh} {xs:List e.ty} {w fz:Bool} {em:Em} (ho:OR P hint Γ Pu I l (.arr et e xs w fz em)) {i:Nat} {x:e.ty} (hx:xs[i]? =some x) {b o:Nat} (hp:l.pos=some (b,o)) (off:Nat):
  ∃ bs f ex sd,I.get b=some (.cells bs et f ex sd)/\o+i*l.sz+off+((e.cV x).drop off).length<=bs.length+off/\(off<=e.sz->o+i*l.sz+off+((e.cV x).drop off).length<=bs.length)/\
   br Γ Pu I ((e.cV x).drop off) ((bs.drop (o+i*l.sz+off)).take ((e.cV x).drop off).length):=by
 obtain ⟨h1,h2,h3,h4 |⟨b',o',vs,f,ex,sd,hp2,he,hg2,ht,hlen,hxs,_,_⟩⟩:=ho
 .grind
 .cases hp.symm.trans hp2
  have henc:=hxs i x hx;have hr:=henc.cV (Γ:=Γ);have hlv:=hr.length;have hlt:=henc.len;have hil:i<xs.length:=(List.getElem?_eq_some_iff.1 hx).1;have hb:o+i*e.sz+e.sz<=vs.length:=by
   have:(i+1)*e.sz<=xs.length*e.sz:=Nat.mul_le_mul_right _ hil;rw [zaj,Nat.one_mul] at this;omega
  have hd:=hr.drop off;rw [h2];refine ⟨vs,f,ex,sd,hg2,by simp;omega,fun hle=>by simp;omega,?_⟩;have e1:((e.cV x).drop off).length=e.sz - off:=by simp;omega
  rw [e1];rw [List.drop_take,zak] at hd;exact hd
theorem vN (hs:au P hint sh Γ Pu H I) {t:TypeId} {a:TV} {a':Value} (h:ny dS P H t a K=some r) (ha:GR Γ Pu I a a'):Good P hint sh K r Γ Pu H I (an (dc P I t a')):=by
 unfold ny at h;split at h
 .rename_i id off
  cases ha with |ptr hl hp=>
  split at h
  .rename_i et cs w hg
   obtain ⟨h1,h2⟩:=ad h;split at h2
   .rename_i x hx
    obtain ⟨l',hl',ho⟩:=hs.obj id _ hg;cases hl.symm.trans hl';obtain ⟨b',vs,fz,ex,sd,hp',hgb,hr,_,_⟩:=ho;cases hp.symm.trans hp';obtain ⟨q1,q2⟩:=hr.whole off (aF h1);obtain ⟨v,hv,hrv⟩:=iA (P:=P) (t:=t) hgb q1 q2 hx;simp only [dc,hv,an];exact Good.same hs h2 hrv
   .cases h2
  .cases h
 .rename_i cs
  cases ha with |nL hpu hg hle hr=>
  split at h
  .rename_i x hx
   obtain ⟨v,hv,hrv⟩:=iA (P:=P) (t:=t) hg hle hr hx;simp only [dc,hv,an];exact Good.same hs h hrv
  .cases h
 .rename_i id i off
  cases ha with |iO hl hp=>
  split at h
  .rename_i et e xs w fz em hg
   replace h:=ad h;obtain ⟨hb,h⟩:=h;obtain ⟨x,hx,h2⟩:=ef h;split at h2
   .rename_i y hy
    obtain ⟨l',hl',ho⟩:=hs.obj id _ hg;cases hl.symm.trans hl';obtain ⟨bs,f,ex,sd,hgb,_,hle,hr⟩:=xO ho hx hp off;obtain ⟨v,hv,hrv⟩:=iA (P:=P) (t:=t) hgb (hle (aF hb)) hr hy;simp only [dc,hv,an];exact Good.same hs h2 hrv
   .cases h2
  .cases h
 .cases h
theorem GR.one {t:TV} {v:Value} (h:GR Γ Pu I t v) (ho:t.one=true):Iv.one v=true:=by
 cases h with
 |agg _=>cases ho
 |ja _=>cases ho
 |undef _=>cases ho
 |raw v=>exact ho
 |aB he _ _=>
  unfold bA at he;rcases he with ⟨_,h⟩ |⟨b,off,cap,cs,et,fz,ex,sd,h,_⟩ |⟨_,b,h⟩<;>cases h<;>rfl
 |all _ hv |own _ _ hv=>
  unfold fF at hv;split at hv
  .obtain ⟨rfl,_⟩:=hv;rfl
  .obtain ⟨cap,rfl,_⟩:=hv;rfl
 |mp _ hv=>obtain ⟨r,rfl⟩:=hv.map;cases r<;>rfl
 |_=>rfl
theorem jG {v:Value} (h:Iv.one v=true):v.cells.toList= [v]:=by
 cases v<;>first |rfl |cases h
theorem TV.B2 {t:TV} (h:t.one=true):t.cells= [t]:=by
 cases t<;>first |rfl |cases h
theorem GR.cells {t:TV} {v:Value} (h:GR Γ Pu I t v) (ho:t.cells.all TV.one=true):br Γ Pu I t.cells v.cells.toList:=by
 by_cases h1:t.one=true
 .rw [t.B2 h1,jG (h.one h1)]
  exact .cons h .nil
 .cases h with
  |agg h=>exact h
  |ja _=>cases ho
  |undef _=>cases ho
  |raw v=>simp [TV.cells] at ho;grind
  |_=>exact absurd rfl h1
theorem br.zn {l:List TV} {l':List Value} (h:br Γ Pu I l l') (ho:l.all TV.one=true):l'.all Iv.one=true:=by
 induction l generalizing l' with
 |nil=>cases h;rfl
 |cons t l ih=>
  cases h with
  |cons a b=>
   simp only [List.all_cons,zae] at ho ⊢;exact ⟨a.one ho.1,ih b ho.2⟩
theorem aM:∀ (vs bs:List Value) (o:Nat),(aA bs o vs).length=bs.length:=by
 intro vs
 induction vs with
 |nil=>intro bs o;rfl
 |cons v vs ih=>intro bs o;simp only [aA];rw [ih];simp
theorem rY:∀ (vs bs:List Value) (a o:Nat),(aA bs (a+o) vs).drop a=aA (bs.drop a) o vs:=by
 intro vs
 induction vs with
 |nil=>intro bs a o;rfl
 |cons v vs ih=>
  intro bs a o;simp only [aA];rw [Nat.add_assoc,ih]
  congr 1
  rw [List.drop_set,if_neg (by omega)]
  congr 1
  omega
theorem sq:∀ (vs bs:List Value) (o n:Nat),(aA bs o vs).take n=aA (bs.take n) o vs:=by
 intro vs
 induction vs with
 |nil=>intro bs o n;rfl
 |cons v vs ih=>intro bs o n;simp only [aA];rw [ih,List.take_set]
theorem j9:∀ (vs bs:List Value) (a o n:Nat),(a+n<=o\/o+vs.length<=a)->((aA bs o vs).drop a).take n=(bs.drop a).take n:=by
 intro vs
 induction vs with
 |nil=>intro bs a o n _;rfl
 |cons v vs ih=>
  intro bs a o n h;simp only [aA];simp only [zad] at h;rw [ih _ a (o+1) n (by omega)];apply List.ext_getElem?
  grind
theorem iJ {bs:List Value} {et:TypeId} {fz:Nat} {ex sd:Bool} {b off:Nat} {vs:List Value} (hg:I.get b=some (.cells bs et fz ex sd)) (hro:ep<=b) (hfz:fz<=off) (hle:off+vs.length<=bs.length) (ho:vs.all Iv.one=true) (hne:vs≠ []):
  I.eJ b off vs=some (I.put b (.cells (aA bs off vs) et fz ex sd)):=by
 unfold IH.eJ;have:vs.isEmpty=false:=by cases vs with
  |nil=>exact absurd rfl hne
  |cons=>rfl
 grind
theorem xx (hs:au P hint sh Γ Pu H I) {t:TypeId} {a x:TV} {a' x':Value} (h:yU dS P H t a x K=some r) (ha:GR Γ Pu I a a') (hx:GR Γ Pu I x x'):Good P hint sh K r Γ Pu H I (an (bK P I t a' x')):=by
 unfold yU at h;split at h
 .rename_i i hi
  replace h:=ad h;obtain ⟨h1,h⟩:=h;replace h1:=ae h1;obtain ⟨h1,h2⟩:=h1;have hlen:=beq_true h1;have hc:=hx.cells h2;have hones:=hc.zn h2;have hl:=hc.length;have hsz:x'.cells.size=i.size:=by rw [←Array.length_toList,hl,hlen]
  split at h
  .rename_i id off
   cases ha with |ptr hlo hp=>
   rename_i b l;split at h
   .rename_i et cs hg
    replace h:=ad h;obtain ⟨h3,h⟩:=h;replace h3:=ae h3;obtain ⟨h3,h4⟩:=h3;have hle:=aF h3;obtain ⟨l',hl',ho⟩:=hs.obj id _ hg;cases hlo.symm.trans hl';obtain ⟨b',vs,fz,ex,sd,hp',hgb,hr,hw,hu⟩:=ho;cases hp.symm.trans hp';obtain ⟨w1,w2,w3,w4⟩:=hw rfl;have hne:x'.cells.toList≠ []:=by
     intro e;rw [e] at hl;simp at hl;rw [List.eq_nil_of_length_eq_zero hl.symm] at h4;cases h4
    have hrl:=hr.length;have hst:=iJ (off:=off) (vs:=x'.cells.toList) hgb w1 (by omega) (by omega) hones hne;simp only [bK,nr,hi,if_pos hsz,hst,an];have hk:∀ k:cp Γ Pu I Γ Pu (I.put b (.cells (aA vs off x'.cells.toList) et fz ex sd)),OR P hint Γ Pu (I.put b (.cells (aA vs off x'.cells.toList) et fz ex sd)) l (.cells et (dO cs off x.cells) true):=fun k=>
     ⟨b,_,fz,ex,sd,hp,by rw [IH.ag,if_pos rfl],(hc.aA hr off).mono k,fun _=>⟨w1,w2,w3,w4⟩,fun h=>by cases h⟩
    have hnp:¬ Pu b:=hs.sep b (.pos hg rfl hlo hp)
    obtain ⟨s1,e1⟩:=hs.gS hg rfl hlo hp (.cells et (dO cs off x.cells) true) (.cells (aA vs off x'.cells.toList) et fz ex sd)
     (hk ⟨fun _ _ h=>h,fun _ h=>h,fun b' hb'=>by rw [IH.ag,if_neg (by grind)]⟩)
    exact ⟨_,_,_,_,_,_,h,rfl,.undef _,s1,e1⟩
   .cases h
  .rename_i id j off
   cases ha with |iO hlo hp=>
   rename_i b o l;split at h
   .rename_i ts H1 hpl
    obtain ⟨Pu1,s1,e1,r1⟩:=iu hs hpl hc;split at h
    .rename_i et e xs em hg
     replace h:=ef h;obtain ⟨y,hy,h⟩:=h;replace h:=ad h;obtain ⟨h3,h⟩:=h;replace h3:=ae h3;obtain ⟨h3,h4⟩:=h3;have hle:=aF h3;split at h
     .rename_i z hz
      obtain ⟨l',hl',ho⟩:=s1.obj id _ hg;cases (e1.g _ _ hlo).symm.trans hl';obtain ⟨bs,f,ex,sd,hgb,_,hbl,hr⟩:=xO ho hy hp 0;obtain ⟨o1,o2,o3,⟨o4,_⟩ |⟨b',o',vs,f',ex',sd',hp2,he,hg2,ht,hlen',hxs,hw,hu⟩⟩:=ho
      .grind
      cases hp.symm.trans hp2;cases hgb.symm.trans hg2;obtain ⟨w1,w2,w3,w4⟩:=hw rfl;have w5:=w4 rfl;have htl:=zc hpl;have hyl:(e.cV y).length=e.sz:=by
       have:=(hxs j y hy).len;have h5:=((hxs j y hy).cV (Γ:=Γ)).length;omega
      have hjl:j<xs.length:=(List.getElem?_eq_some_iff.1 hy).1;have hjb:o+j*e.sz+e.sz<=bs.length:=by
       have:(j+1)*e.sz<=xs.length*e.sz:=Nat.mul_le_mul_right _ hjl;rw [zaj,Nat.one_mul] at this;omega
      have hne:x'.cells.toList≠ []:=by
       intro e;rw [e] at hl;simp at hl;rw [htl,←hl] at hle;have:ts= []:=List.eq_nil_of_length_eq_zero (by omega);rw [this] at h4;cases h4
      have hst:=iJ (off:=o+j*l.sz+off) (vs:=x'.cells.toList) hgb w1 (by omega) (by rw [o2];omega) hones hne;simp only [bK,nr,hi,if_pos hsz,hst,an];have hnp:¬ Pu1 b:=s1.sep b (.pos hg rfl hl' hp);have k:cp Γ Pu1 I Γ Pu1 (I.put b (.cells (aA bs (o+j*l.sz+off) x'.cells.toList) et f ex sd)):=⟨fun _ _ h=>h,fun _ h=>h,fun b' hb'=>by rw [IH.ag,if_neg (by grind)]⟩;have hrow:∀ i q,(xs.set j z)[i]? =some q->bA Pu1 (I.put b (.cells (aA bs (o+j*l.sz+off) x'.cells.toList) et f ex sd)) e q (((aA bs (o+j*l.sz+off) x'.cells.toList).drop (o+i*e.sz)).take e.sz):=by
       intro i q hq;rw [o2] at k ⊢;by_cases hij:i=j
       .subst hij
        rw [List.getElem?_set_self hjl] at hq;cases hq;rw [rY,sq];have h6:=(hxs i y hy).cV (Γ:=Γ);exact (Sh.gA hz (r1.aA h6 off)).mono k.p k.i
       .rw [List.getElem?_set_ne (Ne.symm hij)] at hq
        rw [j9]
        .exact (hxs i q hq).mono k.p k.i
        .rcases Nat.lt_or_gt_of_ne hij with hlt |ql
         .left
          have:(i+1)*e.sz<=j*e.sz:=Nat.mul_le_mul_right _ hlt
          grind
         .right
          have:(j+1)*e.sz<=i*e.sz:=Nat.mul_le_mul_right _ ql
          grind
      obtain ⟨s2,e2⟩:=s1.gS hg rfl hl' hp (.arr et e (xs.set j z) true false em) (.cells (aA bs (o+j*l.sz+off) x'.cells.toList) et f ex sd)
       ⟨by rw [o1];simp,o2,o3,.inr ⟨b,o,_,f,ex,sd,hp,fun h=>by
        simp_all,by rw [IH.ag,if_pos rfl],by rw [aM];exact ht,by rw [aM];simpa using hlen',hrow,fun _=>⟨w1,w2,by simpa using w3,fun _=>w5⟩,fun h=>by cases h⟩⟩
      exact ⟨_,_,_,_,_,_,h,rfl,.undef _,s2,Ex.trans hs s1 e1 e2⟩
     .cases h
    .cases h
   .cases h
  .cases h
 .cases h
end
end Go.Gv
/- The pure evaluator's operations are the ideal one's (the second part): new variables, numbers, texts. -/
namespace Go.Gv
open Go Go.Iv
theorem aI {α Z:Type} (P:Program) (s:Sem α) (k:α->Sem Z) {a:α} (h:bR P s=some a):bR P (s>>=k)=bR P (k a):=by
 induction s with
 |pure b=>simp [bR] at h;subst h;rfl
 |program f ih=>exact ih P h
 |_=>simp [bR] at h
theorem bn {P:Program} {t:TypeId} {d:TypeDesc} (h:P.underlying t=some d):bR P (underlying t)=some d:=by
 unfold underlying;rw [aI (a:=P) P program _ rfl];simp only [h];rfl
theorem PZ (P:Program) (t:TypeId) (k:IntKind) (n m:Int):bR P (Go.binOp .mul t (.int k n) (.int k m))=some (.int k (k.wrap (n*m))):=by
 simp [Go.binOp,Op.intArith];rfl
theorem Qp (P:Program) (t:TypeId) (k:IntKind) (n m:Int) (h:m≠0):bR P (Go.binOp .quo t (.int k n) (.int k m))=some (.int k (k.wrap (n.tdiv m))):=by
 simp [Go.binOp,Op.intDiv,h];rfl
theorem QB (P:Program) (t:TypeId) (k:IntKind) (n m:Int) (h:m≠0):bR P (Go.binOp .rem t (.int k n) (.int k m))=some (.int k (n.tmod m)):=by
 simp [Go.binOp,Op.intDiv,h];rfl
theorem oL (P:Program) (t:TypeId) {op:BinOp} {k:IntKind} {n m q:Int} (h:xZ op k n m=some q):bR P (Go.binOp op t (.int k n) (.int k m))=some (.int k q):=by
 unfold xZ at h;cases op<;>first |(cases h;simp [Go.binOp,Op.intBits];rfl) |cases h
theorem uT {α Z:Type} (P:Program) (s:Sem α) (k:α->Sem Z):bR P (s>>=k)=(bR P s).bind fun a=>bR P (k a):=by
 induction s with
 |pure b=>rfl
 |program f ih=>exact ih P
 |_=>rfl
theorem IE {α:Type} (P:Program) (a:α):bR P (pure a:Sem α)=some a:=rfl
theorem kH (P:Program):bR P program=some P:=rfl
theorem Cy {P:Program} (d:Nat) (xs ys:Array Value):∀ (fs:List Field),bR P (do
   for f in fs do
    if f.name ≠ "_" then
     if !(←Op.equalIn d f.type (←part f.type xs f.offset) (←part f.type ys f.offset)) then return false
   pure true)=bR P (Op.eqFields d xs ys fs):=by
 intro fs
 induction fs with
 |nil=>rfl
 |cons f fs ih=>
  simp only [List.forIn_cons,Op.eqFields];by_cases h : f.name ≠ "_"
  .simp only [h,ne_eq,not_false_eq_true,if_true]
   simp only [uT,bind_assoc];cases bR P (part f.type xs f.offset) with
   |none=>rfl
   |some a=>
    simp only [zaa];cases bR P (part f.type ys f.offset) with
    |none=>rfl
    |some b=>
     simp only [zaa];cases bR P (Op.equalIn d f.type a b) with
     |none=>rfl
     |some r=>
      cases r with
      |false=>rfl
      |true=>
       simp only [zaa,zag,Bool.false_eq_true,if_false];rw [←ih];simp only [uT];rfl
  grind
theorem AV {P:Program} {t:TypeId} (h:P.underlying t=some TypeDesc.bool) (x y:Operand) (a b:Bool):bR P (do eqGuard .eql t x y (.bool a) (.bool b);Go.binOp .eql t (.bool a) (.bool b))=some (.bool (a==b)):=by
 rw [aI (a:=()) P (eqGuard .eql t x y (.bool a) (.bool b)) _ rfl];have he:bR P (Op.equal t (.bool a) (.bool b))=some (a==b):=by
  unfold Op.equal
  show bR P (Op.equalIn (9999+1) t (.bool a) (.bool b))=_
  unfold Op.equalIn;rw [aI _ _ _ (bn h)];rfl
 unfold Go.binOp;exact (aI P _ _ he).trans rfl
theorem C0 {P:Program} {t:TypeId} (h:P.underlying t=some TypeDesc.bool) (x y:Operand) (a b:Bool):bR P (do eqGuard .neq t x y (.bool a) (.bool b);Go.binOp .neq t (.bool a) (.bool b))=some (.bool (!(a==b))):=by
 rw [aI (a:=()) P (eqGuard .neq t x y (.bool a) (.bool b)) _ rfl];have he:bR P (Op.equal t (.bool a) (.bool b))=some (a==b):=by
  unfold Op.equal
  show bR P (Op.equalIn (9999+1) t (.bool a) (.bool b))=_
  unfold Op.equalIn;rw [aI _ _ _ (bn h)];rfl
 unfold Go.binOp;exact (aI P _ _ he).trans rfl
theorem wrap_u8 (n:Int):IntKind.u8.wrap n=n%256:=by
 rfl
theorem MJ (a b:UInt8):IntKind.u8.wrap (a.toNat+b.toNat)=((a+b).toNat:Int):=by
 rfl
theorem LR (a b:UInt8):IntKind.u8.wrap (a.toNat - b.toNat)=((a - b).toNat:Int):=by
 rw [wrap_u8,UInt8.toNat_sub];have:=a.toNat_lt;have:=b.toNat_lt;omega
theorem ofInt_u8 (a:UInt8):BitVec.ofInt 8 (a.toNat:Int)=a.toBitVec:=by
 simp_all
theorem Kz (a b:UInt8):xZ .and .u8 a.toNat b.toNat=some ((a &&&b).toNat:Int):=by
 show some (IntKind.u8.wrap ((BitVec.ofInt 8 (a.toNat:Int) &&&BitVec.ofInt 8 (b.toNat:Int)).toNat:Int))=_
 rw [ofInt_u8,ofInt_u8,wrap_u8];have:(a.toBitVec &&&b.toBitVec).toNat=(a &&&b).toNat:=rfl;rw [this];have:=(a &&&b).toNat_lt;congr 1;omega
theorem PX (a b:UInt8):xZ .or .u8 a.toNat b.toNat=some ((a |||b).toNat:Int):=by
 show some (IntKind.u8.wrap ((BitVec.ofInt 8 (a.toNat:Int) |||BitVec.ofInt 8 (b.toNat:Int)).toNat:Int))=_
 rw [ofInt_u8,ofInt_u8,wrap_u8];have:(a.toBitVec |||b.toBitVec).toNat=(a |||b).toNat:=rfl;rw [this];have:=(a |||b).toNat_lt;congr 1;omega
theorem MR (a b:UInt8):xZ .xor .u8 a.toNat b.toNat=some ((a^^^b).toNat:Int):=by
 show some (IntKind.u8.wrap ((BitVec.ofInt 8 (a.toNat:Int)^^^BitVec.ofInt 8 (b.toNat:Int)).toNat:Int))=_
 rw [ofInt_u8,ofInt_u8,wrap_u8];have:(a.toBitVec^^^b.toBitVec).toNat=(a^^^b).toNat:=rfl;rw [this];have:=(a^^^b).toNat_lt;congr 1;omega
theorem PU (n:Int):((UInt8.ofNat (IntKind.u8.wrap n).toNat).toNat:Int)=IntKind.u8.wrap n:=by
 rw [wrap_u8];simp;omega
theorem HZ (c:UInt8):IntKind.u8.wrap (c.toNat:Int)=(c.toNat:Int):=by
 rw [wrap_u8];have:=c.toNat_lt;omega
theorem tu (a b:UInt8):((a.toNat:Int)==(b.toNat:Int))=(a==b):=by
 rw [Bool.eq_iff_iff];simp;exact ⟨fun h=>UInt8.toNat_inj.1 (by omega),fun h=>by rw [h]⟩
theorem Hj (a b:Nat):aD (a:Int) (b:Int)=Nat.blt a b:=by
 rw [fu,Bool.eq_iff_iff];simp [Nat.blt_eq]
theorem Gh (a b:Nat):ak (a:Int) (b:Int)=Nat.ble a b:=rfl
section
variable {Z:Type} {P:Program} {hint:Hint} {sh:bU} {Γ Γ1:aN} {Pu Pu1:Nat->Prop} {H H1:GH} {I I1:IH} {K:TV->GH->Option Z} {r:Z}
theorem Cu {v:Value} (h:fQ v=true):GR Γ Pu I (jW v) v:=by
 cases v with
 |int k n=>
  cases k<;>try exact .int _ _
  cases n with
  |ofNat n=>
   have hn:n<=255:=aF h;have:GR Γ Pu I (.byte (UInt8.ofNat n)) (.int .u8 ((UInt8.ofNat n).toNat:Int)):= .byte _;have e:((UInt8.ofNat n).toNat:Int)=Int.ofNat n:=by simp;omega
   rw [e] at this;exact this
  |negSucc n=>cases h
 |bool b=>exact .bool b
 |string s=>exact .str (bl s)
 |_=>exact .raw _
theorem eB:∀ {l:List Value},l.all fQ=true->br Γ Pu I (l.map jW) l:=by
 intro l
 induction l with
 |nil=>intro _;exact .nil
 |cons v l ih=>intro h;simp only [List.all_cons,zae] at h;exact .cons (Cu h.1) (ih h.2)
theorem QA (v:Value):GR Γ Pu I (conv v) (if free v then v else aO):=by
 unfold conv;cases hf:free v with
 |false=>exact .undef _
 |true=>
  simp only [zac,if_true];split
  .rename_i cs
   cases hb:cs.toList.all fQ with
   |false=>exact .undef _
   |true=>exact .agg (eB hb)
  .exact .undef _
  .exact .undef _
  .cases hb:fQ v with
   |false=>exact .undef _
   |true=>exact Cu hb
theorem cR {fi:FI} {E:GE} {E':En} (hs:au P hint sh Γ Pu H I) (he:ER Γ Pu I E E') (x:Operand):GR Γ Pu I (dD fi E x) (eQ fi E' x):=by
 cases x with
 |tmp t=>
  show GR Γ Pu I (fe fi E t) (ft fi E' t)
  unfold fe ft;cases cls fi t with
  |out=>exact .undef _
  |loc=>exact (he t).1
  |tmp=>exact (he t).2
 |const v=>exact QA v
 |global g=>
  show GR Γ Pu I (bif Nat.ble (Nat.succ g) bI then .ptr g 0 else .undef) (if g<bI then _ else _)
  by_cases h:g<bI
  .rw [if_pos h,Nat.ble_eq_true_of_le (show Nat.succ g<=bI from h)]
   obtain ⟨l,h1,h2⟩:=hs.cq g h;exact .ptr h1 h2
  .rw [if_neg h]
   cases hb:Nat.ble (Nat.succ g) bI with
   |false=>exact .undef _
   |true=>exact absurd (aF hb) h
 |func f=>exact .fn .nil .nil
theorem Good.cells (hs:au P hint sh Γ Pu H I) {et:TypeId} {cs:List TV} {vs:List Value} (hr:br Γ Pu I cs vs) (h:K (.ptr H.n 0) (H.new (.cells et cs true))=some r):
  Good P hint sh K r Γ Pu H I (some (ptrTo I.n,bO I et vs)):=by
 obtain ⟨s1,e1⟩:=hs.new (.cells et cs true) (.cells vs et 0 true false) ⟨some (I.n,0),0,0,0⟩ 0 rfl
  ⟨I.n,vs,0,true,false,rfl,by rw [IH.ay,if_pos rfl],hr.mono (jR hs _ _),fun _=>⟨hs.ro,rfl,rfl,rfl⟩,fun h=>by cases h⟩
 exact ⟨_,_,_,_,_,_,h,rfl,.ptr (l:=⟨some (I.n,0),0,0,0⟩) (by simp [aN.up]) rfl,s1,e1⟩
theorem Ik (hs:au P hint sh Γ Pu H I) {e:TypeId} (h:vp P H e K=some r):Good P hint sh K r Γ Pu H I (an (fR P I e)):=by
 unfold vp at h;split at h
 .rename_i z hz
  replace h:=ad h;obtain ⟨hb,h⟩:=h;simp only [fR,hz,an];exact Good.cells hs (eB hb) h
 .cases h
theorem GR.Ac {t:TV} {v:Value} (h:GR Γ Pu I t v) (ho:t.ok=true):P8 v=true/\br Γ Pu I t.cells v.cells.toList:=by
 cases h with
 |agg h=>exact ⟨rfl,h⟩
 |ja _=>cases ho
 |undef _=>cases ho
 |raw v=>
  simp only [TV.ok,zae] at ho;refine ⟨ho.1,?_⟩;have:v.cells.toList= [v]:=by
   cases v<;>first |rfl |grind
  rw [this];exact .cons (.raw v) .nil
 |aB he a b=>
  have he0:=he;unfold bA at he;rcases he with ⟨_,h⟩ |⟨b,off,cap,cs,et,fz,ex,sd,h,_⟩ |⟨_,b,h⟩<;>cases h<;>exact ⟨rfl,.cons (.aB he0 a b) .nil⟩
 |all hl hv=>
  have hv0:=hv;unfold fF at hv;split at hv
  .obtain ⟨rfl,_⟩:=hv;exact ⟨rfl,.cons (.all hl hv0) .nil⟩
  .obtain ⟨cap,rfl,_⟩:=hv;exact ⟨rfl,.cons (.all hl hv0) .nil⟩
 |own hl hle hv=>
  have hv0:=hv;unfold fF at hv;split at hv
  .obtain ⟨rfl,_⟩:=hv;exact ⟨rfl,.cons (.own hl hle hv0) .nil⟩
  .obtain ⟨cap,rfl,_⟩:=hv;exact ⟨rfl,.cons (.own hl hle hv0) .nil⟩
 |int k n=>exact ⟨rfl,.cons (.int k n) .nil⟩
 |byte c=>exact ⟨rfl,.cons (.byte c) .nil⟩
 |bool c=>exact ⟨rfl,.cons (.bool c) .nil⟩
 |str c=>exact ⟨rfl,.cons (.str c) .nil⟩
 |ptr a b=>exact ⟨rfl,.cons (.ptr a b) .nil⟩
 |nL a b c d=>exact ⟨rfl,.cons (.nL a b c d) .nil⟩
 |iO a b=>exact ⟨rfl,.cons (.iO a b) .nil⟩
 |fn a b=>exact ⟨rfl,.cons (.fn a b) .nil⟩
 |mo a b=>exact ⟨rfl,.cons (.mo a b) .nil⟩
 |mp a b=>
  have b0:=b;obtain ⟨r,rfl⟩:=b.map;cases r<;>exact ⟨rfl,.cons (.mp a b0) .nil⟩
theorem Bv (hs:au P hint sh Γ Pu H I) {e:TypeId} {v:TV} {v':Value} (h:Gn H e v K=some r) (hv:GR Γ Pu I v v'):Good P hint sh K r Γ Pu H I (an (o7 I e v')):=by
 unfold Gn at h;replace h:=ad h;obtain ⟨hb,h⟩:=h;obtain ⟨h1,h2⟩:=hv.Ac hb;simp only [o7,h1,if_true,an];exact Good.cells hs h2 h
theorem OM (hs:au P hint sh Γ Pu H I) {e:TypeId} {v:TV} {v':Value} (h:SD H e v K=some r) (hv:GR Γ Pu I v v'):Good P hint sh K r Γ Pu H I (an (o7 I e v')):=by
 unfold SD at h;split at h
 .rename_i id
  split at h
  .rename_i v1 H1 hp
   obtain ⟨Pu1,s1,x1,r1⟩:=iu hs hp (.cons hv .nil);cases r1 with |cons a _=>
   obtain ⟨t,H2,Γ2,Pu2,v2,I2,k1,k2,k3,k4,k5⟩:=Bv s1 h a;exact ⟨t,H2,Γ2,Pu2,v2,I2,k1,k2,k3,k4,Ex.trans hs s1 x1 k5⟩
  .cases h
 .exact Bv hs h hv
def D7 (Γ:aN) (Pu:Nat->Prop) (I:IH):List (Nat×TV)->List (Nat×Value)->Prop
 | [],[]=>True
 |(i,t)::l,(j,v)::l'=>i=j/\GR Γ Pu I t v/\D7 Γ Pu I l l'
 |_,_=>False
theorem D7.map {ρ:Operand->TV} {ρ':Operand->Value} (h:∀ x,GR Γ Pu I (ρ x) (ρ' x)):∀ l:List (Nat×Operand),D7 Γ Pu I (l.map fun p=>(p.1,ρ p.2)) (l.map fun p=>(p.1,ρ' p.2)):=by
 intro l
 induction l with
 |nil=>trivial
 |cons p l ih=>exact ⟨rfl,h p.2,ih⟩
theorem D7.ok:∀ {l:List (Nat×TV)} {l':List (Nat×Value)},D7 Γ Pu I l l'->l.all (fun p=>p.2.ok)=true->l'.all (fun p=>P8 p.2)=true:=by
 intro l
 induction l with
 |nil=>intro l' h _;cases l' with
  |nil=>rfl
  |cons=>exact h.elim
 |cons p l ih=>
  intro l' h ho;cases l' with
  |nil=>exact h.elim
  |cons p' l'=>
   obtain ⟨i,t⟩:=p;obtain ⟨j,v⟩:=p';obtain ⟨_,h2,h3⟩:=h;simp only [List.all_cons,zae] at ho ⊢;exact ⟨(h2.Ac ho.1).1,ih h3 ho.2⟩
theorem jQ {place:Nat->Option (Nat×Nat)}:∀ {ps:List (Nat×TV)} {ps':List (Nat×Value)} {cs cs':List TV} {vs:Array Value},oO place cs ps=some cs'->ps.all (fun p=>p.2.ok)=true->D7 Γ Pu I ps ps'->br Γ Pu I cs vs.toList->
  ∃ vs',Instr.fill place vs ps'=some vs'/\br Γ Pu I cs' vs'.toList:=by
 intro ps
 induction ps with
 |nil=>
  intro ps' cs cs' vs h _ hp hr;cases ps' with
  |nil=>unfold oO at h;cases h;exact ⟨vs,rfl,hr⟩
  |cons=>exact hp.elim
 |cons p ps ih=>
  intro ps' cs cs' vs h ho hp hr;cases ps' with
  |nil=>exact hp.elim
  |cons p' ps'=>
   obtain ⟨i,t⟩:=p;obtain ⟨j,v⟩:=p';obtain ⟨rfl,h2,h3⟩:=hp;simp only [List.all_cons,zae] at ho;unfold oO at h;split at h
   .cases h
   .rename_i off size hpl
    replace h:=ad h;obtain ⟨hb,h⟩:=h;replace hb:=ae hb;obtain ⟨hb1,hb2⟩:=hb;have hc:=(h2.Ac ho.1).2;have hl:=hc.length;have hl2:=hr.length;have e1:=beq_true hb1;have e2:=aF hb2;have hfold:(v.cells.zipIdx.foldl (fun cs (x:Value×Nat)=>cs.setIfInBounds (off+x.2) x.1) vs).toList=aA vs.toList off v.cells.toList:=by
     have:=zC off v.cells.toList 0 vs;rw [Nat.add_zero] at this;rw [←this]
     congr 1
     rw [←Array.foldl_toList,Array.toList_zipIdx]
    obtain ⟨vs',hf,hr'⟩:=ih (vs:=v.cells.zipIdx.foldl (fun cs (x:Value×Nat)=>cs.setIfInBounds (off+x.2) x.1) vs) h ho.2 h3 (by rw [hfold];exact hc.aA hr off);refine ⟨vs',?_,hr'⟩;unfold Instr.fill
    grind
theorem IF (hs:au P hint sh Γ Pu H I) {t:TypeId} {ps:List (Nat×TV)} {ps':List (Nat×Value)} (h:EP P H t ps K=some r) (hp:D7 Γ Pu I ps ps'):Good P hint sh K r Γ Pu H I (an (ka P I t ps')):=by
 unfold EP at h;replace h:=ad h;obtain ⟨hb,h⟩:=h;simp only [ka,hp.ok hb,if_true];split at h
 .rename_i z hz
  replace h:=ad h;obtain ⟨hb2,h⟩:=h;have hzr:=eB (Γ:=Γ) (Pu:=Pu) (I:=I) hb2;split at h
  .rename_i fs hu
   split at h
   .rename_i places hpl
    split at h
    .rename_i cells hf
     obtain ⟨vs',hf',hr'⟩:=jQ hf hb hp hzr;simp only [hz,hu,hpl,hf',an];exact Good.same hs h (.agg hr')
    .cases h
   .cases h
  .rename_i n e hu
   split at h
   .rename_i i hi
    split at h
    .rename_i cells hf
     obtain ⟨vs',hf',hr'⟩:=jQ hf hb hp hzr;simp only [hz,hu,hi,hf',an];exact Good.same hs h (.agg hr')
    .cases h
   .cases h
  .cases h
 .cases h
theorem O7 (hs:au P hint sh Γ Pu H I) {x:TV} {x':Value} (h:R4 H x K=some r) (hx:GR Γ Pu I x x'):Good P hint sh K r Γ Pu H I (an (eV I x')):=by
 unfold R4 at h;split at h
 all_goals first
  |(cases hx;simp only [eV,an];exact Good.same hs h (by constructor<;>assumption))
  |cases h
theorem CR {cs:List TV} {vs:List Value} {t:TypeId} {x:TV} {off:Nat} (hr:br Γ Pu I cs vs) (h:eO P t (cs.drop off)=some x):∃ v,partOf P t vs off=some v/\GR Γ Pu I x v:=by
 unfold eO at h;unfold partOf;cases ha:gI P t with
 |none=>grind
 |some g=>
  rw [ha] at h;cases g with
  |true=>
   simp only at h ⊢;cases hi:P.info? t with
   |none=>grind
   |some i=>
    rw [hi] at h;simp only at h ⊢;obtain ⟨h1,h2⟩:=ad h;cases h2;exact ⟨_,rfl,.agg ((hr.drop off).take i.size)⟩
  |false=>
   simp only at h ⊢;cases hd:cs.drop off with
   |nil=>grind
   |cons c cs'=>
    rw [hd] at h;cases h;have:=hr.drop off;rw [hd] at this;obtain ⟨v,hv,hr'⟩:=this.get (i:=0) rfl
    grind
theorem Io (hs:au P hint sh Γ Pu H I) {t:TypeId} {x:TV} {x':Value} {f:Nat} (h:yO P H t x f K=some r) (hx:GR Γ Pu I x x'):Good P hint sh K r Γ Pu H I (an (kj P I t x' f)):=by
 unfold yO at h;split at h
 .rename_i fs cs hu
  cases hx with |agg hr=>
  split at h
  .rename_i fd hfd
   split at h
   .rename_i v hv
    obtain ⟨v',hp,hr'⟩:=CR (P:=P) hr hv;simp only [kj,hu,hfd,hp,an];exact Good.same hs h hr'
   .cases h
  .cases h
 .cases h
theorem wo (hs:au P hint sh Γ Pu H I) {s:TypeId} {x:TV} {x':Value} {f:Nat} (h:iD P H s x f K=some r) (hx:GR Γ Pu I x x'):Good P hint sh K r Γ Pu H I (an (cD P I s x' f)):=by
 unfold iD at h;split at h
 .rename_i fs hu
  split at h
  .rename_i fd hfd
   split at h
   .rename_i i hi
    cases hz:Nat.beq i.size 0 with
    |true=>grind
    |false=>
     rw [hz] at h;simp only [zab] at h;have hne:i.size≠0:=fun e=>by simp_all
     split at h
     .cases hx with |ptr a b=>
      simp only [cD,hu,hfd,hi,if_neg hne,an];exact Good.same hs h (.ptr a b)
     .rename_i cs
      cases hx with |nL a b c d=>
      simp only [cD,hu,hfd,hi,if_neg hne,an];replace h:=ad h;obtain ⟨hb,h⟩:=h;have hl:=aF hb;refine Good.same hs h ?_;refine .nL a b (by simp;omega) ?_;have:=d.drop fd.offset;rw [List.drop_take,zak] at this;simpa using this
     .rename_i id j off
      cases hx with |iO a b=>
      simp only [cD,hu,hfd,hi,if_neg hne,an];have:=GR.iO (Γ:=Γ) (Pu:=Pu) (I:=I) (i:=j) (off:=off+fd.offset) a b;rw [←Nat.add_assoc] at this;exact Good.same hs h this
     .cases h
   .cases h
  .cases h
 .cases h
end
end Go.Gv
/- The pure evaluator's operations are the ideal one's (the third part): numbers, comparisons, conversions, looks into lists and texts. -/
namespace Go.Gv
open Go Go.Iv
section
variable {Z:Type} {P:Program} {hint:Hint} {sh:bU} {Γ Γ1:aN} {Pu Pu1:Nat->Prop} {H H1:GH} {I I1:IH} {K:TV->GH->Option Z} {r:Z}
theorem fP {op:BinOp} {t:TypeId} {x y:Operand} {k k':IntKind} {n m q:Int} (h:bR P (Go.binOp op t (.int k n) (.int k' m))=some (.int k q))
  (ho:(match op with | .eql | .neq | .lss | .leq | .gtr | .geq | .add | .sub=>false |_=>true)=true):an (aX P I op t x y (.int k n) (.int k' m))=some (.int k q,I):=by
 cases op<;>first |(simp only [aX,h,aU,if_true,an];done) |(cases ho;done)
theorem Pl (hs:au P hint sh Γ Pu H I) {op:BinOp} {t:TypeId} {x y:Operand} {k:IntKind} {n m:Int} (ho:op≠ .shl/\op≠ .shr) (h:OC dS H op k n m K=some r):Good P hint sh K r Γ Pu H I (an (aX P I op t x y (.int k n) (.int k m))):=by
 unfold OC at h;cases op
 case shl=>grind
 case shr=>grind
 case eql=>simp only [aX,bP,if_true,an];exact Good.same hs h (.bool _)
 case neq=>simp only [aX,bP,if_true,an];exact Good.same hs h (.bool _)
 case lss=>simp only [aX,if_true,an];exact Good.same hs h (.bool _)
 case leq=>simp only [aX,if_true,an];exact Good.same hs h (.bool _)
 case gtr=>simp only [aX,if_true,an];exact Good.same hs h (.bool _)
 case geq=>simp only [aX,if_true,an];exact Good.same hs h (.bool _)
 case add=>simp only [aX,if_true,an];exact Good.same hs h (.int _ _)
 case sub=>simp only [aX,if_true,an];exact Good.same hs h (.int _ _)
 case mul=>rw [fP (PZ P t k n m) rfl];exact Good.same hs h (.int _ _)
 case quo=>
  replace h:=aE h;obtain ⟨hb,h⟩:=h;rw [fP (Qp P t k n m (by simpa using hb)) rfl];exact Good.same hs h (.int _ _)
 case rem=>
  replace h:=aE h;obtain ⟨hb,h⟩:=h;rw [fP (QB P t k n m (by simpa using hb)) rfl];exact Good.same hs h (.int _ _)
 all_goals
  simp only at h;split at h
  .rename_i q hq
   rw [fP (oL P t hq) rfl];exact Good.same hs h (.int _ _)
  .cases h
theorem qy (hs:au P hint sh Γ Pu H I) {op:BinOp} {t:TypeId} {x y:Operand} {k k':IntKind} {n m:Int} (h:u6 dS H op k n m K=some r):Good P hint sh K r Γ Pu H I (an (aX P I op t x y (.int k n) (.int k' m))):=by
 unfold u6 at h;cases h
theorem Na (hs:au P hint sh Γ Pu H I) {op:BinOp} {t:TypeId} {x y:Operand} {a b:UInt8} (h:GZ H op a b K=some r):Good P hint sh K r Γ Pu H I (an (aX P I op t x y (.int .u8 a.toNat) (.int .u8 b.toNat))):=by
 unfold GZ at h;split at h
 .simp only [aX,bP,if_true,an,Bool.false_eq_true,if_false,tu];exact Good.same hs h (.bool _)
 .have:((a.toNat:Int) !=(b.toNat:Int))=(a !=b):=by unfold bne;rw [tu]
  simp only [aX,bP,if_true,an,this];exact Good.same hs h (.bool _)
 .simp only [aX,if_true,an,Hj];exact Good.same hs h (.bool _)
 .simp only [aX,if_true,an,Gh];exact Good.same hs h (.bool _)
 .simp only [aX,if_true,an,Hj];exact Good.same hs h (.bool _)
 .simp only [aX,if_true,an,Gh];exact Good.same hs h (.bool _)
 .simp only [aX,if_true,an,MJ];exact Good.same hs h (.byte _)
 .simp only [aX,if_true,an,LR];exact Good.same hs h (.byte _)
 .rw [fP (oL P t (Kz a b)) rfl];exact Good.same hs h (.byte _)
 .rw [fP (oL P t (PX a b)) rfl];exact Good.same hs h (.byte _)
 .rw [fP (oL P t (MR a b)) rfl];exact Good.same hs h (.byte _)
 .cases h
theorem n8 (hs:au P hint sh Γ Pu H I) {op:BinOp} {t:TypeId} {x y:Operand} {k':IntKind} {a:UInt8} {m:Int} (h:oX dS H op a m K=some r):Good P hint sh K r Γ Pu H I (an (aX P I op t x y (.int .u8 a.toNat) (.int k' m))):=by
 unfold oX at h;cases h
theorem nx (s:List UInt8):bl (ba s)=s:=rfl
theorem Qe (hs:au P hint sh Γ Pu H I) {op:BinOp} {t:TypeId} {x y:Operand} {a b:List UInt8} (h:PB dS H op a b K=some r):Good P hint sh K r Γ Pu H I (an (aX P I op t x y (.string (ba a)) (.string (ba b)))):=by
 unfold PB at h;split at h
 .simp only [aX,bP,an,Bool.false_eq_true,if_false,nx];exact Good.same hs h (.bool _)
 .simp only [aX,bP,an,if_true,nx];exact Good.same hs h (.bool _)
 .simp only [aX,an,nx];exact Good.same hs h (.bool _)
 .replace h:=aE h;obtain ⟨hb,h⟩:=h
  have hle:=aF hb;simp only [aX];rw [if_pos (show (ba a).size+(ba b).size<=roomy from hle)];exact Good.same hs h (.str _)
 .cases h
theorem SI {v':Value} (hl:GR Γ Pu I SK v'):v'= .slice none 0 0:=by
 cases hl;rfl
theorem lH {e:Sh} {xs:List e.ty} {v:Value} (h:bA Pu I (.bH e) xs [v]):∃ a l c,v= .slice a l c/\(sY v=true->xs= [])/\sY v=a.isNone:=by
 unfold bA at h;rcases h with ⟨h1,h2⟩ |⟨b,off,cap,cs,et,fz,ex,sd,h,_⟩ |⟨h1,b,h⟩
 .cases h2;exact ⟨_,_,_,rfl,fun _=>h1,rfl⟩
 .cases h;exact ⟨_,_,_,rfl,(fun h=>by cases h),rfl⟩
 .cases h;exact ⟨_,_,_,rfl,(fun h=>by cases h),rfl⟩
theorem jI {t e:TypeId} (hu:P.underlying t=some (.slice e)) (a:Option Addr) (l c:Nat):dV P I t (.slice a l c) (.slice none 0 0)=some a.isNone:=by
 unfold dV;rw [hu];cases a<;>rfl
theorem hZ {t e:TypeId} (hu:P.underlying t=some (.slice e)) (a:Option Addr) (l c:Nat):dV P I t (.slice none 0 0) (.slice a l c)=some a.isNone:=by
 unfold dV;rw [hu]
theorem I7 {neg:Bool} {t:TypeId} {x y:Operand} {a b:Value} {q:Bool} (h:dV P I t a b=some q) (ha:∀ k n,a≠ .int k n) (hb:∀ s,a≠ .string s):bP P I neg t x y a b=some (.val (.bool (if neg then !q else q)) I):=by
 unfold bP
 grind
theorem fF.some {l:Loc} {off len:Nat} {v:Value} (h:fF l off len v):∃ a c,v= .slice a len c/\(a=none->len=0/\l.pos=none)/\(a≠none->l.pos≠none):=by
 unfold fF at h;split at h
 .rename_i hp;obtain ⟨rfl,rfl⟩:=h;exact ⟨none,0,rfl,fun _=>⟨rfl,hp⟩,fun h=>absurd rfl h⟩
 grind
theorem TM (neg:Bool) {t:TypeId} {x y:Operand} {a b:Value} {q:Bool} (h:bP P I neg t x y a b=some (.val (.bool q) I)):an (aX P I (if neg then .neq else .eql) t x y a b)=some (.bool q,I):=by
 cases neg
 .simp only [Bool.false_eq_true,if_false,aX,h,an]
 .simp only [if_true,aX,h,an]
theorem xd (hs:au P hint sh Γ Pu H I) {neg:Bool} {t:TypeId} {x y:Operand} {a b:TV} {a' b':Value} (h:vq dS P H neg t a b K=some r) (ha:GR Γ Pu I a a') (hb:GR Γ Pu I b b'):
  Good P hint sh K r Γ Pu H I (an (aX P I (if neg then .neq else .eql) t x y a' b')):=by
 have go:∀ {q:Bool},dV P I t a' b'=some q->(∀ k n,a'≠ .int k n)->(∀ s,a'≠ .string s)->K (.bool (if neg then !q else q)) H=some r->Good P hint sh K r Γ Pu H I (an (aX P I (if neg then .neq else .eql) t x y a' b')):=by
  intro q h1 h2 h3 h4;rw [TM neg (I7 h1 h2 h3)];exact Good.same hs h4 (.bool _)
 unfold vq at h;split at h
 .rename_i e _ _ _ c _ hu
  cases hb;cases ha with |aB he hn _=>
  obtain ⟨aa,l,cc,rfl,_,hnb⟩:=lH he;refine go (jI hu aa l cc) (by intros;simp) (by intros;simp) ?_
  grind
 .rename_i e _ _ c _ hu
  cases ha;cases hb with |aB he hn _=>
  obtain ⟨aa,l,cc,rfl,_,hnb⟩:=lH he;refine go (hZ hu aa l cc) (by intros;simp) (by intros;simp) ?_
  grind
 .rename_i e _ xs _ hu
  cases hb;cases ha with |aB he hn _=>
  replace h:=aE h;obtain ⟨hx,h⟩:=h;obtain ⟨aa,l,cc,rfl,hn2,hnb⟩:=lH he;refine go (jI hu aa l cc) (by intros;simp) (by intros;simp) ?_;have:aa.isNone=false:=by
   cases hq:aa.isNone with
   |false=>rfl
   |true=>rw [hn2 (hnb.trans hq)] at hx;cases hx
  grind
 .rename_i e _ xs _ hu
  cases ha;cases hb with |aB he hn _=>
  replace h:=aE h;obtain ⟨hx,h⟩:=h;obtain ⟨aa,l,cc,rfl,hn2,hnb⟩:=lH he;refine go (hZ hu aa l cc) (by intros;simp) (by intros;simp) ?_;have:aa.isNone=false:=by
   cases hq:aa.isNone with
   |false=>rfl
   |true=>rw [hn2 (hnb.trans hq)] at hx;cases hx
  grind
 .rename_i e _ id hu
  cases hb;cases ha with |all hl hv=>
  split at h
  .rename_i et e' xs w fz em hg
   obtain ⟨l',hl',ho⟩:=hs.obj id _ hg;cases hl.symm.trans hl';obtain ⟨aa,c,rfl,h1,h2⟩:=hv.some;obtain ⟨o1,o2,o3,o4⟩:=ho;have hem:em= .ex->aa.isNone=xs.isEmpty:=fun hem=>by
    rcases o4 with ⟨p1,p2,_⟩ |⟨b,o,vs,f,ex,sd,p1,p2,_⟩
    .grind
    .cases aa with
     |none=>grind
     |some a=>
      grind
   have hne:(!xs.isEmpty)=true->aa.isNone=false:=fun hx=>by
    cases aa with
    |some a=>rfl
    |none=>
     grind
   cases em with
   |ex=>
    refine go (jI hu aa _ c) (by intros;simp) (by intros;simp) ?_
    grind
   |any |no=>
    replace h:=aE h;obtain ⟨hx,h⟩:=h;refine go (jI hu aa _ c) (by intros;simp) (by intros;simp) ?_
    grind
  .cases h
 .rename_i e _ id hu
  cases ha;cases hb with |all hl hv=>
  split at h
  .rename_i et e' xs w fz em hg
   obtain ⟨l',hl',ho⟩:=hs.obj id _ hg;cases hl.symm.trans hl';obtain ⟨aa,c,rfl,h1,h2⟩:=hv.some;obtain ⟨o1,o2,o3,o4⟩:=ho;have hem:em= .ex->aa.isNone=xs.isEmpty:=fun hem=>by
    rcases o4 with ⟨p1,p2,_⟩ |⟨b,o,vs,f,ex,sd,p1,p2,_⟩
    .grind
    .cases aa with
     |none=>grind
     |some a=>
      grind
   have hne:(!xs.isEmpty)=true->aa.isNone=false:=fun hx=>by
    cases aa with
    |some a=>rfl
    |none=>
     grind
   cases em with
   |ex=>
    refine go (hZ hu aa _ c) (by intros;simp) (by intros;simp) ?_
    grind
   |any |no=>
    replace h:=aE h;obtain ⟨hx,h⟩:=h;refine go (hZ hu aa _ c) (by intros;simp) (by intros;simp) ?_
    grind
  .cases h
 .rename_i e _ _ len hu
  cases hb;cases ha with |own hl hle hv=>
  replace h:=aE h;obtain ⟨hx,h⟩:=h;obtain ⟨aa,c,rfl,h1,h2⟩:=hv.some;refine go (jI hu aa _ c) (by intros;simp) (by intros;simp) ?_;have:aa.isNone=false:=by
   cases aa with
   |some a=>rfl
   |none=>rw [(h1 rfl).1] at hx;cases hx
  grind
 .rename_i e _ _ len hu
  cases ha;cases hb with |own hl hle hv=>
  replace h:=aE h;obtain ⟨hx,h⟩:=h;obtain ⟨aa,c,rfl,h1,h2⟩:=hv.some;refine go (hZ hu aa _ c) (by intros;simp) (by intros;simp) ?_;have:aa.isNone=false:=by
   cases aa with
   |some a=>rfl
   |none=>rw [(h1 rfl).1] at hx;cases hx
  grind
 .rename_i e hu
  cases ha;cases hb;refine go (hZ hu none 0 0) (by intros;simp) (by intros;simp) ?_
  grind
 .rename_i e hu
  cases ha;cases hb;refine go (q:=true) (by unfold dV;rw [hu];rfl) (by intros;simp) (by intros;simp) ?_
  grind
 .rename_i e _ _ hu
  cases hb;cases ha;refine go (q:=false) (by unfold dV;rw [hu]) (by intros;simp) (by intros;simp) ?_
  grind
 .rename_i e _ _ hu
  cases ha;cases hb;refine go (q:=false) (by unfold dV;rw [hu];rfl) (by intros;simp) (by intros;simp) ?_
  grind
 .rename_i e id o id' o' hu
  replace h:=ad h;obtain ⟨hx,h⟩:=h;replace hx:=ae hx;obtain ⟨hx,hx3⟩:=hx;replace hx:=ae hx;obtain ⟨hx,hx2⟩:=hx;have hid:=beq_true hx;subst hid;cases ha with |ptr a1 a2=>
  cases hb with |ptr b1 b2=>
  cases a1.symm.trans b1;cases a2.symm.trans b2;rename_i b l;have hsome:(I.get b).isSome=true:=by
   cases hg:H.get id with
   |none=>grind
   |some ob=>
    obtain ⟨l',hl',ho⟩:=hs.obj id ob hg;cases a1.symm.trans hl';obtain ⟨io,hio⟩:=ho.zi (.inl ⟨_,a2⟩);rw [hio];rfl
  have hq:(o==o')=Nat.beq o o':=by rw [Bool.eq_iff_iff];simp [Nat.beq_eq]
  refine go (q:=Nat.beq o o') (by unfold dV;grind) (by intros;simp) (by intros;simp) h
 .rename_i hu
  cases hb;cases ha;refine go (q:=false) (by unfold dV;rw [hu]) (by intros;simp) (by intros;simp) ?_
  grind
 .rename_i hu
  cases ha;cases hb;refine go (q:=false) (by unfold dV;rw [hu]) (by intros;simp) (by intros;simp) ?_
  grind
 .rename_i hu
  cases ha;cases hb;refine go (q:=true) (by unfold dV;rw [hu]) (by intros;simp) (by intros;simp) ?_
  grind
 .rename_i hu
  cases ha;cases hb;refine go (q:=true) (by unfold dV;rw [hu];rfl) (by intros;simp) (by intros;simp) ?_
  grind
 .rename_i id hu
  cases hb;cases ha with |mp hl hv=>
  rename_i l;split at h
  .rename_i kt gk ge ks es xs em hg
   obtain ⟨l',hl',ho⟩:=hs.obj id _ hg;cases hl.symm.trans hl';unfold Oj at hv;rcases ho with ⟨_,⟨hp,hx,hem⟩ |⟨b,ents,ck,hp,hro,hne,hgb,hent⟩⟩
   .rw [hp] at hv;subst hv
    rw [hem,hx] at h;refine go (q:=true) (by unfold dV;rw [hu];rfl) (by intros;simp) (by intros;simp) ?_
    grind
   .rw [hp] at hv;subst hv
    refine go (q:=false) (by unfold dV;rw [hu]) (by intros;simp) (by intros;simp) ?_;cases em with
    |true=>
     grind
    |false=>grind
  .cases h
 .cases h
theorem DA {t:TypeId} {d:TypeDesc} (h:P.underlying t=some d) (h1:∀ fs,d≠ .struct fs) (h2:∀ n e,d≠ .array n e):bR P (isAgg t)=some false:=by
 unfold isAgg;rw [aI _ _ _ (bn h)];cases d<;>first |rfl |grind |grind
theorem yf {t:TypeId} {d:TypeDesc} (h:P.underlying t=some d) (h1:∀ fs,d≠ .struct fs) (h2:∀ n e,d≠ .array n e) {cs:Array Value} {off:Nat} {v:Value} (hv:cs[off]? =some v):bR P (part t cs off)=some v:=by
 unfold part;rw [aI _ _ _ (DA h h1 h2)];simp only [Bool.false_eq_true,if_false,hv];rfl
theorem Oq {d:Nat} {t:TypeId} {a b:TV} {a' b':Value} {q:Bool} (h:Sw P t a b=some q) (ha:GR Γ Pu I a a') (hb:GR Γ Pu I b b'):
  bR P (Op.equalIn (d+1) t a' b')=some q/\aU a'=true/\aU b'=true/\∃ e,P.underlying t=some e/\(∀ fs,e≠ .struct fs)/\(∀ n x,e≠ .array n x):=by
 unfold Sw at h;split at h
 .cases ha;cases hb
  split at h
  .rename_i hu
   split at h
   .rename_i hk;subst hk;cases h
    refine ⟨?_,rfl,rfl,_,hu,(fun _ h=>by cases h),(fun _ _ h=>by cases h)⟩;unfold Op.equalIn;rw [aI _ _ _ (bn hu)];simp only [if_true];rfl
   .cases h
  .cases h
 .cases ha;cases hb
  split at h
  .rename_i hu
   cases h;refine ⟨?_,rfl,rfl,_,hu,(fun _ h=>by cases h),(fun _ _ h=>by cases h)⟩;unfold Op.equalIn;rw [aI _ _ _ (bn hu)];simp only [if_true];rw [←tu];rfl
  .cases h
 .cases ha;cases hb
  split at h
  .rename_i hu
   cases h;refine ⟨?_,rfl,rfl,_,hu,(fun _ h=>by cases h),(fun _ _ h=>by cases h)⟩;unfold Op.equalIn;rw [aI _ _ _ (bn hu)];rfl
  .cases h
 .cases ha;cases hb
  rename_i x y;split at h
  .rename_i hu
   cases h;refine ⟨?_,rfl,rfl,_,hu,(fun _ h=>by cases h),(fun _ _ h=>by cases h)⟩;unfold Op.equalIn;rw [aI _ _ _ (bn hu)];have e:(ba x==ba y)=(x==y):=by
    show ((⟨x⟩:Array UInt8)==⟨y⟩)=(x==y)
    simp
   rw [←e];rfl
  .cases h
 .cases h
theorem PN {d:Nat} {xs ys:Array Value}:∀ {fs:List Field} {i:Nat} {cs ds:List TV} {vs ws:List Value} {q:Bool},Ps P fs i cs ds=some q->br Γ Pu I cs vs->br Γ Pu I ds ws->xs.toList.drop i=vs->ys.toList.drop i=ws->
  bR P (Op.eqFields (d+1) xs ys fs)=some q/\vs.all aU=true/\ws.all aU=true:=by
 intro fs
 induction fs with
 |nil=>
  intro i cs ds vs ws q h hc hd _ _;cases hc with
  |nil=>
   cases hd with
   |nil=>cases h;exact ⟨rfl,rfl,rfl⟩
   |cons _ _=>cases h
  |cons _ _=>cases h
 |cons f r ih=>
  intro i cs ds vs ws q h hc hd hx hy;cases hc with
  |nil=>cases h
  |cons ha hc=>
   cases hd with
   |nil=>cases h
   |cons hb hd=>
    rename_i a as v vs b bs w ws;unfold Ps at h;replace h:=ad h;obtain ⟨hn,h⟩:=h;replace hn:=ae hn;have hname : f.name ≠ "_" := by simpa using hn.1
    have hoff:f.offset=i:=beq_true hn.2;split at h
    .rename_i p q' h1 h2
     cases h;obtain ⟨e1,e2,e3,e,hu,n1,n2⟩:=Oq (d:=d) h1 ha hb;have hxi:xs[f.offset]? =some v:=by
      rw [hoff,←Array.getElem?_toList,←List.head?_drop,hx];rfl
     have hyi:ys[f.offset]? =some w:=by
      rw [hoff,←Array.getElem?_toList,←List.head?_drop,hy];rfl
     have hx2:xs.toList.drop (i+1)=vs:=by rw [←zak,hx];rfl
     have hy2:ys.toList.drop (i+1)=ws:=by rw [←zak,hy];rfl
     obtain ⟨k1,k2,k3⟩:=ih h2 hc hd hx2 hy2;refine ⟨?_,by simp [e2,k2],by simp [e3,k3]⟩;simp only [Op.eqFields,if_pos hname];rw [aI _ _ _ (yf hu n1 n2 hxi),aI _ _ _ (yf hu n1 n2 hyi),aI _ _ _ e1];cases p with
     |true=>grind
     |false=>rfl
    .cases h
theorem ya (hs:au P hint sh Γ Pu H I) {neg:Bool} {t:TypeId} {x y:Operand} {cs ds:List TV} {vs ws:List Value} (h:vJ P H neg t cs ds K=some r) (ha:br Γ Pu I cs vs) (hb:br Γ Pu I ds ws):
  Good P hint sh K r Γ Pu H I (an (aX P I (if neg then .neq else .eql) t x y (.agg ⟨vs⟩) (.agg ⟨ws⟩))):=by
 unfold vJ at h;split at h
 .rename_i fs hu
  replace h:=ad h;obtain ⟨hg,h⟩:=h;replace hg:=ae hg;have h1:P.stoodInHeld t=false:=by simpa using hg.1
  have h2:P.eqGuardType P.depth t=false:=by simpa using hg.2
  split at h
  .rename_i q hq
   obtain ⟨k1,k2,k3⟩:=PN (d:=9998) (xs:=⟨vs⟩) (ys:=⟨ws⟩) hq ha hb rfl rfl;have he:bR P (Op.equal t (.agg ⟨vs⟩) (.agg ⟨ws⟩))=some q:=by
    unfold Op.equal
    show bR P (Op.equalIn (9999+1) t (.agg ⟨vs⟩) (.agg ⟨ws⟩))=_
    unfold Op.equalIn;rw [aI _ _ _ (bn hu)];simp only [];rw [aI _ _ _ (kH P),h1];simp only [Bool.false_eq_true,if_false];rw [←Array.forIn_toList];exact (Cy 9999 ⟨vs⟩ ⟨ws⟩ fs.toList).trans k1
   have guard:∀ op,bR P (eqGuard op t x y (.agg ⟨vs⟩) (.agg ⟨ws⟩))=some ():=by
    intro op;unfold eqGuard;cases op<;>first |rfl |(simp only [zag,Bool.false_eq_true,if_false];rw [aI _ _ _ (kH P)];rw [aI _ _ _ (kH P)];rw [h2];rfl)
   have ne:dV P I t (.agg ⟨vs⟩) (.agg ⟨ws⟩)=none:=by unfold dV;rw [hu]
   have fr:(free (.agg ⟨vs⟩) &&free (.agg ⟨ws⟩))=true:=by
    show (vs.all aU &&ws.all aU)=true
    rw [k2,k3];rfl
   cases neg with
   |false=>
    have hr:bR P (do eqGuard .eql t x y (.agg ⟨vs⟩) (.agg ⟨ws⟩);Go.binOp .eql t (.agg ⟨vs⟩) (.agg ⟨ws⟩))=some (.bool q):=by
     rw [aI _ _ _ (guard .eql)];unfold Go.binOp;exact (aI P _ _ he).trans rfl
    have:aX P I .eql t x y (.agg ⟨vs⟩) (.agg ⟨ws⟩)=some (.val (.bool q) I):=by
     simp only [aX,bP,ne,fr,if_true,Bool.false_eq_true,if_false,hr,aU]
    simp only [Bool.false_eq_true,if_false,this];exact Good.same hs h (.bool _)
   |true=>
    have hr:bR P (do eqGuard .neq t x y (.agg ⟨vs⟩) (.agg ⟨ws⟩);Go.binOp .neq t (.agg ⟨vs⟩) (.agg ⟨ws⟩))=some (.bool (!q)):=by
     rw [aI _ _ _ (guard .neq)];unfold Go.binOp;exact (aI P _ _ he).trans rfl
    have:aX P I .neq t x y (.agg ⟨vs⟩) (.agg ⟨ws⟩)=some (.val (.bool (!q)) I):=by
     simp only [aX,bP,ne,fr,if_true,hr,aU]
    simp only [if_true,this];exact Good.same hs h (.bool _)
  .cases h
 .cases h
theorem PQ (hs:au P hint sh Γ Pu H I) {op:BinOp} {t:TypeId} {x y:Operand} {a b:TV} {a' b':Value} (h:Pk dS P H op t a b K=some r) (ha:GR Γ Pu I a a') (hb:GR Γ Pu I b b'):
  Good P hint sh K r Γ Pu H I (an (aX P I op t x y a' b')):=by
 unfold Pk at h;split at h
 .cases ha;cases hb
  split at h
  .exact qy hs h
  .exact qy hs h
  .rename_i h1 h2
   split at h
   .rename_i hk;subst hk
    exact Pl hs ⟨fun e=>h1 e,fun e=>h2 e⟩ h
   .cases h
 .cases ha;cases hb
  split at h
  .exact n8 hs h
  .exact n8 hs h
  .exact Na hs h
 .cases ha;cases hb;exact n8 hs h
 .cases ha;cases hb;exact qy hs h
 .cases ha;cases hb;exact Qe hs h
 .cases ha;cases hb
  rename_i p q;have ne:dV P I t (.bool p) (.bool q)=none:=by unfold dV;split<;>first |rfl |grind |contradiction
  split at h
  .rename_i hu
   have:aX P I .eql t x y (.bool p) (.bool q)=some (.val (.bool (p==q)) I):=by
    simp only [aX,bP,ne,free,aU,zai,if_true,Bool.false_eq_true,if_false,AV hu]
   rw [this];exact Good.same hs h (.bool _)
  .rename_i hu
   have:aX P I .neq t x y (.bool p) (.bool q)=some (.val (.bool (!(p==q))) I):=by
    simp only [aX,bP,ne,free,aU,zai,if_true,C0 hu]
   rw [this];exact Good.same hs h (.bool _)
  .cases h
 .cases ha with |agg ha=>
  cases hb with |agg hb=>
  split at h
  .exact ya (neg:=false) hs h ha hb
  .exact ya (neg:=true) hs h ha hb
  .cases h
 .split at h
  .exact xd (neg:=false) hs h ha hb
  .exact xd (neg:=true) hs h ha hb
  .cases h
theorem R5 (hs:au P hint sh Γ Pu H I) {op:UnOp} {a:TV} {a':Value} (h:TY H op a K=some r) (ha:GR Γ Pu I a a'):Good P hint sh K r Γ Pu H I (an (DL P I op a')):=by
 unfold TY at h;split at h
 .cases ha;exact Good.same hs h (.bool _)
 .cases ha
  rename_i k n;have:bR P (Op.unary .neg (.int k n))=some (.int k (k.wrap (0 - n))):=rfl;simp only [DL,this,aU,if_true,an];exact Good.same hs h (.int _ _)
 .cases h
end
end Go.Gv
/- The pure evaluator's operations are the ideal one's (the fourth part): lists, texts. -/
namespace Go.Gv
open Go Go.Iv
section
variable {Z:Type} {P:Program} {hint:Hint} {sh:bU} {Γ Γ1:aN} {Pu Pu1:Nat->Prop} {H H1:GH} {I I1:IH} {K:TV->GH->Option Z} {r:Z}
theorem au.Hd (hs:au P hint sh Γ Pu H I) (cs:List Value) (et:TypeId) (fz:Nat) (ex sd:Bool):
  au P hint sh Γ (fun b=>Pu b\/b=I.n) H (I.new (.cells cs et fz ex sd))/\Ex (bk Γ H I) Γ Pu H I Γ (fun b=>Pu b\/b=I.n) H (I.new (.cells cs et fz ex sd)):=by
 have getold:∀ b,b<I.n->(I.new (.cells cs et fz ex sd)).get b=I.get b:=fun b hb=>by rw [IH.ay,if_neg (Nat.ne_of_lt hb)]
 have hk:cp Γ Pu I Γ (fun b=>Pu b\/b=I.n) (I.new (.cells cs et fz ex sd)):=⟨fun _ _ h=>h,fun _ h=> .inl h,fun b hb=>getold b (hs.iT hb)⟩;have hpos:∀ id o l b x,H.get id=some o->o.cY=true->Γ id=some l->l.pos=some (b,x)->(I.new (.cells cs et fz ex sd)).get b=I.get b:=fun id o l b x hg hm hl hp=>getold b (hs.bJ (.pos hg hm hl hp))
 refine ⟨⟨?_,hs.HH hpos,?_,hs.aT,?_,?_,Nat.le_succ_of_le hs.ro,hs.gn,hs.cq,hs.st,hs.nK hk.p hk.i⟩,⟨fun _ _ h=>h,zal _,Nat.le_succ _,fun _ h=> .inl h,fun b hb _=>getold b hb,fun b _ h=>pf hpos h,?_,zal _,fun _ _=> .inr (.inl rfl),?_⟩⟩
 .intro id o hg
  obtain ⟨l,hl,_⟩:=hs.obj id o hg;exact ⟨l,hl,hs.dF hk hg hl fun hm b hat=>getold b (hs.bJ ⟨id,o,l,hg,hm,hl,hat⟩)⟩
 .intro b hb hpu
  rcases hpu with h |h
  .exact hs.sep b (pf hpos hb) h
  .have:=hs.bJ (pf hpos hb);omega
 .intro b hb
  have hb':I.n+1<=b:=hb;rw [IH.ay,if_neg (by omega)];exact hs.fresh b (by omega)
 .intro b hb
  rcases hb with h |h
  .obtain ⟨cs,et,fz,ex,sd,hg⟩:=hs.pu b h
   exact ⟨cs,et,fz,ex,sd,(getold b (hs.lt hg)).trans hg⟩
  .subst h;exact ⟨cs,et,fz,ex,sd,by rw [IH.ay,if_pos rfl]⟩
 .grind
 .intro id l b x s h1 _ hl hp
  exact hs.ey hk h1 hl hp fun o hg hm=>hpos id o l b x hg hm hl hp
theorem Row.byte:∀ {xs:List UInt8} {vs:List Value},Row Pu I .byte xs vs 0->vs.length=xs.length->vs=xs.map fun c=> .int .u8 c.toNat:=by
 intro xs
 induction xs with
 |nil=>grind
 |cons c xs ih=>
  intro vs hr hl;cases vs with
  |nil=>cases hl
  |cons v vs=>
   have h0:bA Pu I .byte c _:=hr 0 c rfl;simp only [Sh.sz,Nat.zero_mul,Nat.add_zero,List.drop_zero] at h0;unfold bA at h0;simp at h0;subst h0;rw [List.map_cons,←ih (vs:=vs)]
   .intro i x hi
    have:=hr (i+1) x hi;simp only [Sh.sz,Nat.mul_one,Nat.zero_add,List.drop_succ_cons] at this ⊢;exact this
   .simpa using hl
theorem rf {s:List UInt8}:Row Pu I .byte s (s.map fun c=>(.int .u8 c.toNat:Value)) 0:=by
 intro i x hi;simp only [Sh.sz,Nat.mul_one,Nat.zero_add];unfold bA;rw [←List.map_drop,←List.map_take];have:(s.drop i).take 1= [x]:=by
  rw [List.getElem?_eq_some_iff] at hi;obtain ⟨h1,h2⟩:=hi;rw [List.drop_eq_getElem_cons h1,h2];rfl
 rw [this];rfl
structure Ej (Pu:Nat->Prop) (I:IH) (e:Sh) (xs:List e.ty) (v:Value):Prop where
 len:∃ a c,v= .slice a xs.length c
 cells:∃ cs,bD I e.sz xs.length v=some cs/\cs.length=xs.length*e.sz/\Row Pu I e xs cs 0
theorem GP {e:Sh} {xs:List e.ty} {b off cap:Nat} {vs:List Value} {et:TypeId} {fz:Nat} {ex sd:Bool} (hg:I.get b=some (.cells vs et fz ex sd)) (hl:off+xs.length*e.sz<=vs.length) (hr:Row Pu I e xs vs off):
  Ej Pu I e xs (.slice (some ⟨b,off,none⟩) xs.length cap):=
 ⟨⟨_,_,rfl⟩,(vs.drop off).take (xs.length*e.sz),by
  simp only [bD,IH.bf,hg,if_pos hl]
  simp_all,by simp;omega,hr.cut _ (zal _)⟩
theorem HY {e:Sh} {b cap:Nat}:Ej Pu I e ([]:List e.ty) (.slice (some ⟨b,0,none⟩) 0 cap):=
 ⟨⟨_,_,rfl⟩,[],by rfl,by simp,fun i x h=>by cases h⟩
theorem vc {e:Sh}:Ej Pu I e ([]:List e.ty) (.slice none 0 0):=
 ⟨⟨_,_,rfl⟩,[],rfl,by simp,fun i x h=>by cases h⟩
theorem bA.H6 {e:Sh} {xs:List e.ty} {v:Value} (h:bA Pu I (.bH e) xs [v]):Ej Pu I e xs v:=by
 unfold bA at h;rcases h with ⟨rfl,h⟩ |⟨b,off,cap,cs,et,fz,ex,sd,h,hb,hg,hc,hl,hx⟩ |⟨rfl,b,h⟩
 .cases h;exact vc
 .cases h;exact GP hg hl hx
 .cases h;exact HY
theorem OR.H6 {l:Loc} {et:TypeId} {e:Sh} {xs:List e.ty} {w fz:Bool} {em:Em} (ho:OR P hint Γ Pu I l (.arr et e xs w fz em)) {off len:Nat} (hle:off+len<=xs.length) {v:Value} (hv:fF l off len v):Ej Pu I e ((xs.drop off).take len) v:=by
 obtain ⟨h1,h2,h3,⟨hp,hx,_⟩ |⟨b,o,vs,f,ex,sd,hp,he,hg2,ht,hlen,hx,_,_⟩⟩:=ho
 .unfold fF at hv;rw [hp] at hv
  obtain ⟨rfl,rfl⟩:=hv;rw [List.take_zero];exact vc
 .unfold fF at hv;rw [hp] at hv
  obtain ⟨cap,rfl,hc⟩:=hv;have hlen':((xs.drop off).take len).length=len:=by simp;omega
  have hr:Row Pu I e xs vs o:=hx;have:=GP (cap:=cap) hg2 (off:=o+off*e.sz) (xs:=(xs.drop off).take len) (by
   rw [hlen'];have:(off+len)*e.sz<=xs.length*e.sz:=Nat.mul_le_mul_right _ hle;rw [zaj] at this;omega) (hr.part off len)
  grind
inductive Dw (Pu:Nat->Prop) (I:IH) (s:Sh) (ys:List s.ty) (v:Value):Prop
 |mk (n:Nat) (cs:List Value):fj v=some n->n=ys.length->bD I s.sz n v=some cs->cs.length=ys.length*s.sz->Row Pu I s ys cs 0->((∃ a c,v= .slice a n c)\/∃ t,v= .string t)->Dw Pu I s ys v
theorem Ej.spread {e:Sh} {xs:List e.ty} {v:Value} (h:Ej Pu I e xs v):Dw Pu I e xs v:=by
 obtain ⟨⟨a,c,rfl⟩,cs,h1,h2,h3⟩:=h;exact .mk xs.length cs rfl rfl h1 h2 h3 (.inl ⟨a,c,rfl⟩)
theorem uy (hs:au P hint sh Γ Pu H I) {s:Sh} {x:TV} {x':Value} {ys:List s.ty} (h:mq H s x=some ys) (hx:GR Γ Pu I x x'):Dw Pu I s ys x':=by
 unfold mq at h;split at h
 .cases h;cases hx;exact vc.spread
 .split at h
  .rename_i hh _;subst hh;cases h;cases hx with |aB he _ _=>exact he.H6.spread
  .cases h
 .split at h
  .rename_i et e xs w fz em hg
   split at h
   .rename_i hh _;subst hh;cases h
    cases hx with |all hl hv=>
    obtain ⟨l',hl',ho⟩:=hs.obj _ _ hg;cases hl.symm.trans hl';have h1:=ho.1;rw [h1] at hv;have:=ho.H6 (off:=0) (len:=xs.length) (by omega) hv;simp only [List.drop_zero,List.take_length] at this;exact this.spread
   .cases h
  .cases h
 .split at h
  .rename_i et e xs w fz em hg
   split at h
   .rename_i hh _;subst hh;cases h
    cases hx with |own hl hle hv=>
    obtain ⟨l',hl',ho⟩:=hs.obj _ _ hg;cases hl.symm.trans hl';rw [ho.1] at hle;exact (ho.H6 hle hv).spread
   .cases h
  .cases h
 .split at h
  .rename_i t _ hh _;subst hh;cases h;cases hx
   exact .mk t.length (t.map fun c=> .int .u8 c.toNat) rfl rfl (by simp [bD,nx]) (by simp [Sh.sz];rfl) rf (.inr ⟨_,rfl⟩)
  .cases h
 .cases h
theorem MU (s:ByteArray):ba (bl s)=s:=rfl
theorem GR.strOf (s:ByteArray):GR Γ Pu I (.str (bl s)) (.string s):=GR.str (bl s)
theorem rR:∀ s:List UInt8,bytesOf (s.map fun c=>(.int .u8 c.toNat:Value))=some s:=by
 intro s
 induction s with
 |nil=>rfl
 |cons c s ih=>
  have h1:Iv.byteOf (.int .u8 (c.toNat:Int))=some c:=by simp [Iv.byteOf]
  simp only [List.map_cons,bytesOf,h1,ih]
theorem AJ (hs:au P hint sh Γ Pu H I) {e:TypeId} {x:TV} {x':Value} (h:ru P H e x K=some r) (hx:GR Γ Pu I x x') (hn:∀ s,x≠ .str s):Good P hint sh K r Γ Pu H I (an (cP P I e x')):=by
 unfold ru at h;split at h
 .rename_i hu
  split at h
  .rename_i s hse
   obtain ⟨n,cs,h1,h2,h3,h4,h5,h6⟩:=uy hs hse hx;rcases h6 with ⟨a,c,rfl⟩ |⟨t,rfl⟩
   .subst h2
    have hcs:=h5.byte (by simpa [Sh.sz] using h4);cases a with
    |none=>
     have:s= []:=by
      cases hl:s.length with
      |zero=>grind
      |succ k=>rw [hl] at h3;cases c<;>cases h3
     subst this;simp only [cP,hu,an];exact Good.same hs h (.str [])
    |some a=>
     obtain ⟨b,off,p⟩:=a;cases p with
     |some _=>cases h3
     |none=>
      by_cases hz:s.length=0
      .have:s= []:=List.eq_nil_of_length_eq_zero hz
       subst this;simp only [cP,hu,zah,if_true,an];exact Good.same hs h (.str [])
      .simp only [bD,Sh.sz,Nat.mul_one,if_neg hz] at h3
       simp only [cP,hu,if_neg hz,h3,hcs,rR,an];exact Good.same hs h (.str s)
   .cases hx with
    |str s=>grind
    |raw v=>simp [mq] at hse
    |undef v=>simp [mq] at hse
    |aB he _ _=>obtain ⟨⟨_,_,hh⟩,_⟩:=he.H6;cases hh
    |all _ hv=>obtain ⟨_,_,hh,_⟩:=hv.some;cases hh
    |own _ _ hv=>obtain ⟨_,_,hh,_⟩:=hv.some;cases hh
    |mp _ hv=>obtain ⟨_,hh⟩:=hv.map;cases hh
  .cases h
 .cases h
theorem C8 (hs:au P hint sh Γ Pu H I) {src dst:TypeId} {x:TV} {x':Value} (h:oT P H src dst x K=some r) (hx:GR Γ Pu I x x'):Good P hint sh K r Γ Pu H I (an (aQ P I src dst x')):=by
 unfold oT at h;split at h
 .rename_i ks k hu hv
  split at h
  .cases hx
   rename_i k0 n;by_cases hk:k= .u8
   .subst hk
    simp only [zac] at h;simp only [aQ,hu,hv,an];have:=GR.byte (Γ:=Γ) (Pu:=Pu) (I:=I) (UInt8.ofNat (IntKind.u8.wrap n).toNat);rw [PU] at this;exact Good.same hs h this
   .have h':K (wr k n) H=some r:=by cases k<;>first |grind |exact h
    simp only [aQ,hu,hv,an];exact Good.same hs h' (.int _ _)
  .cases hx
   rename_i c;by_cases hk:k= .u8
   .subst hk
    simp only [zac] at h;simp only [aQ,hu,hv,an,HZ];exact Good.same hs h (.byte _)
   .have h':K (wr k c.toNat) H=some r:=by cases k<;>first |grind |exact h
    simp only [aQ,hu,hv,an];exact Good.same hs h' (.int _ _)
  .cases h
 .rename_i ks hu hv
  split at h
  .cases hx
   simp only [aQ,hu,hv,an];exact Good.same hs h (.strOf _)
  .cases hx
   simp only [aQ,hu,hv,an];exact Good.same hs h (.strOf _)
  .cases h
 .rename_i hu hv
  split at h
  .cases hx
   simp only [aQ,hu,hv,an];exact Good.same hs h (.str _)
  .cases h
 .rename_i e hu hv
  split at h
  .rename_i s hue
   cases hx;simp only [aQ,hu,hv,fc,hue,an];obtain ⟨s1,e1⟩:=hs.Hd ((bl (ba s)).map fun c=> .int .u8 c.toNat) e 0 false true;refine ⟨_,_,_,_,_,_,h,rfl,.aB ?_ (fun c hc=>by cases hc;rfl) (fun hc=>by cases hc),s1,e1⟩;refine .inr (.inl ⟨I.n,0,ff+1,_,e,0,false,true,rfl,.inr rfl,by rw [IH.ay,if_pos rfl],.inl (by simp only [Sh.sz]),?_,?_⟩)
   .simp [Sh.sz,nx]
   .exact rf
  .cases h
 .rename_i e hu hv
  split at h
  .cases h
  .rename_i hn
   simp only [aQ,hu,hv];exact AJ hs h hx fun s he=>hn s he
 .rename_i t hu hv
  split at h
  .rename_i id off
   cases hx with |ptr hl hp=>
   split at h
   .rename_i et cs w hg
    replace h:=ad h;obtain ⟨hb,h⟩:=h;replace hb:=ae hb;obtain ⟨hb1,hb2⟩:=hb;obtain ⟨l',hl',ho⟩:=hs.obj _ _ hg;cases hl.symm.trans hl';obtain ⟨b',vs,fz,ex,sd,hp',hgb,hr,_⟩:=ho;cases hp.symm.trans hp';have h1:P.cellsOf t≠0:=fun e=>by simp_all
    have h2:off<vs.length:=by rw [hr.length];exact c7 hb2
    have hc:(P.cellsOf t !=0 &&decide (off<vs.length))=true:=by simp [h1,h2]
    simp only [aQ,hu,hv,dB,hgb,hc,if_true,an];exact Good.same hs h (.ptr hl hp)
   .cases h
  .cases hx
   simp only [aQ,hu,hv,dB,an];exact Good.same hs h (.raw _)
  .cases h
 .rename_i u hu hv
  split at h
  .rename_i id off
   cases hx with |ptr hl hp=>
   split at h
   .rename_i et cs hg
    replace h:=ad h;obtain ⟨hb,h⟩:=h;replace hb:=ae hb;obtain ⟨hb1,hb2⟩:=hb;obtain ⟨l',hl',ho⟩:=hs.obj _ _ hg;cases hl.symm.trans hl';obtain ⟨b',vs,fz,ex,sd,hp',hgb,hr,hw,_⟩:=ho;cases hp.symm.trans hp';have h1:P.cellsOf u≠0:=fun e=>by simp_all
    obtain ⟨_,_,w3,_⟩:=hw rfl;subst w3;rw [←hr.length] at hb2;have hc:(P.cellsOf u !=0 &&liesAt P P.depth et (vs.length / P.cellsOf et) off u 1)=true:=by simp [h1,hb2]
    simp only [aQ,hu,hv,cz,hgb,hc,if_true,an];exact Good.same hs h (.ptr hl hp)
   .cases h
  .cases hx
   simp only [aQ,hu,hv,cz,an];exact Good.same hs h (.raw _)
  .cases h
 .cases h
end
end Go.Gv
