/- The operations: what the ideal evaluator answers is what the model's operation gives in every related world. -/
import Derived.Test.YteknbnkjelmfaaaGreatDoorGvRun
import Derived.Laws.Cells
import Derived.Laws.MakeOwn
import Derived.Laws.Append
import Derived.Laws.Strings
import Derived.Laws.AppendOwn
set_option linter.unusedSimpArgs false
set_option linter.unusedVariables false
namespace Go.Iv
open Go
variable {P:Program} {Γ:Ga} {H:IH} {w:World}
theorem jx {t:TypeId} {i:TypeInfo} (h:P.info? t=some i) (w:World):(typeInfo t).run P w= .ok i w:=by
 simp [typeInfo,h]
theorem aR {t:TypeId} {i:TypeInfo} (h:P.info? t=some i) (w:World):(sizeOf t).run P w= .ok i.size w:=by
 simp [sizeOf,jx h]
theorem cK {t:TypeId} {z:Value} (h:zeroOf P t=some z) (w:World):(zeroValue t).run P w= .ok z w:=by
 unfold zeroOf at h;split at h
 .rename_i i hi
  split at h
  .rename_i z' hz
   split at h
   .cases h;simp [zeroValue,jx hi,hz]
   .cases h
  .cases h
 .cases h
theorem dx {t:TypeId} {z:Value} (h:zeroOf P t=some z):free z=true:=by
 unfold zeroOf at h
 grind
theorem km {t:TypeId} {b:Bool} (h:gI P t=some b) (w:World):(isAgg t).run P w= .ok b w:=by
 unfold gI at h;cases hu:P.underlying t with
 |none=>simp [hu] at h
 |some d=>
  simp only [isAgg,Sem.run_bind,run_underlying hu,Result.andThen_ok];cases d<;>simp_all
theorem fU {t e:TypeId} {i:TypeInfo} (h:cu P t=some (e,i)):P.underlying t=some (.slice e)/\P.info? e=some i:=by
 unfold cu at h
 grind
theorem VR.eQ (hR:Rh Γ H w) {fi:FI} {T:En} {a:Act} (hT:TR Γ w fi T a.tmps) (x:Operand):VR Γ w (Iv.eQ fi T x) (a.eval x):=by
 cases x with
 |tmp t=>exact hT.get t
 |const v=>
  simp only [Iv.eQ,Act.eval];split
  .rename_i h;exact .iZ h
  .exact .aO _
 |global g=>
  simp only [Iv.eQ,Act.eval];split
  .rename_i h
   have hg:=hR.cq g h;have:=VR.ptr (w:=w) (o:=0) hg.1;simpa [Ga.at,hg.2] using this
  .exact .aO _
 |func f=>exact .func rfl .nil .nil
def Good (Γ:Ga) (H:IH) (w:World) (r:Result Next):az->Prop
 | .val v H'=>∃ v' w' Γ',r= .ok (.value v') w'/\VR Γ' w' v v'/\Rh Γ' H' w'/\Ext Γ H w Γ' H' w'
 | .skip H'=>∃ w' Γ',r= .ok .skip w'/\Rh Γ' H' w'/\Ext Γ H w Γ' H' w'
 | .panic v H'=>∃ v' w' Γ',r= .halt (.panic v') w'/\VR Γ' w' v v'/\Rh Γ' H' w'/\Ext Γ H w Γ' H' w'
 | .defer d H'=>H'=H/\∃ fn c c' as as',fW fn=true/\d={ target:= .fn fn c,args:=as }/\r= .ok (.defer { target:= .fn fn c',args:=as' }) w/\bX Γ w c.toList c'.toList/\bX Γ w as.toList as'.toList
theorem ai (hR:Rh Γ H w) {v v':Value} (h:VR Γ w v v') {r:Result Next} (hr:r= .ok (.value v') w):Good Γ H w r (.val v H):=
 ⟨v',w,Γ,hr,h,hR,.refl Γ H w⟩
theorem jD {α:Type} {s:Sem α} {a:α} (h:bR P s=some a) (w:World):s.run P w= .ok a w:=by
 induction s with
 |pure b=>simp [bR] at h;simp [Sem.run,h]
 |program k ih=>simp only [bR] at h;simp only [Sem.run];exact ih P h
 |_=>simp [bR] at h
theorem Ia {b:Nat} {cs:List Value} {e:TypeId} {fz:Nat} {ex sh:Bool} (hR:Rh Γ H w) (hb:H.get b=some (.cells cs e fz ex sh)) {i:Nat} {v:Value} (hi:cs[i]? =some v):
  ∃ v',w.cell? (Γ.at b i)=some v'/\VR Γ w v v':=by
 obtain ⟨cs',lo,hi',hr⟩:=hR.obj b _ hb;obtain ⟨v',h1,h2⟩:=hr.cell i v hi;refine ⟨v',?_,h2⟩;simp only [Ga.at,World.cell?,hr.block];simpa using h1
theorem wR (hR:Rh Γ H w) {t:TypeId} {b off:Nat} {v:Value} (h:l7 P H t b off=some v):
  ∃ v',(loadVar t (Γ.at b off)).run P w= .ok v' w/\VR Γ w v v':=by
 unfold l7 at h;split at h
 .rename_i ha
  split at h
  .rename_i i hi
   split at h
   .rename_i cs hc
    simp only [Option.some.injEq] at h;subst h;obtain ⟨cs',h1,h2,h3⟩:=hR.bf hc;refine ⟨.agg ⟨cs'⟩,?_,.agg h1⟩;have:=run_loadCells_list (P:=P) (w:=w) (Γ.at b off) cs' h3;rw [h2] at this;simp [loadVar,km ha,aR hi,this]
   .cases h
  .cases h
 .rename_i ha
  split at h
  .rename_i cs e fz ex sh hb
   obtain ⟨v',h1,h2⟩:=Ia hR hb h;exact ⟨v',by simp [loadVar,km ha,h1],h2⟩
  .cases h
 .cases h
def lay (w:World) (b:Nat) (o:Obj):World:={ w with heap:=w.heap.setIfInBounds b o }
theorem bC {w:World} {b:Nat} {o x:Obj} (h:w.heap[b]? =some x):(lay w b o).heap[b]? =some o:=by
 have:=(Array.getElem?_eq_some_iff.1 h).1;simp [lay,this]
theorem bE {w:World} {b c:Nat} {o:Obj} (h:c≠b):(lay w b o).heap[c]? =w.heap[c]? :=by
 simp only [lay];grind
@[simp] theorem TL (w:World) (b:Nat) (o:Obj):(lay w b o).heap.size=w.heap.size:=by simp [lay]
theorem QH (w:World) (b:Nat) (o o':Obj):lay (lay w b o) b o'=lay w b o':=by
 simp [lay]
theorem iL {w:World} {b:Nat} {cs cs':Array Value} {e:TypeId} {f f':Nat×Nat} (h:w.heap[b]? =some (.cells cs e f)) (hs:cs'.size=cs.size):eD w (lay w b (.cells cs' e f')):=by
 intro x ds d g hx;by_cases e1:x=b
 .subst e1
  rw [h] at hx;cases hx;exact ⟨cs',f',bC h,hs⟩
 .exact ⟨ds,g,(bE e1).trans hx,rfl⟩
theorem xw {w:World} {b:Nat} {o o':Obj} (h:w.heap[b]? =some o) (hn:∀ cs e f,o≠ .cells cs e f):eD w (lay w b o'):=by
 intro x ds d g hx;by_cases e1:x=b
 .grind
 .exact ⟨ds,g,(bE e1).trans hx,rfl⟩
theorem Bb {w:World} {B o:Nat} {v:Value} {cs:Array Value} {e:TypeId} {f:Nat×Nat} (h:w.heap[B]? =some (.cells cs e f)):
  w.setCell ⟨B,o,none⟩ v=lay w B (.cells (cs.setIfInBounds o v) e f):=by
 obtain ⟨hlt,hb⟩:=Array.getElem?_eq_some_iff.1 h;simp only [World.setCell,lay]
 congr 1
 grind
theorem aM (cs:List Value) (off:Nat) (vs:List Value):(aA cs off vs).length=cs.length:=by
 induction vs generalizing cs off with
 |nil=>rfl
 |cons v vs ih=>simp [aA,ih]
theorem eW (cs:List Value) (off:Nat) (vs:List Value) (j:Nat):
  (aA cs off vs)[j]? =if off<=j/\j<off+vs.length/\j<cs.length then vs[j - off]? else cs[j]? :=by
 induction vs generalizing cs off with
 |nil=>rw [if_neg (by simp;omega)];rfl
 |cons v vs ih=>
  simp only [aA,ih,List.length_set,zad];by_cases h1:off=j
  .grind
  .by_cases h2:off+1<=j/\j<off+1+vs.length/\j<cs.length
   .rw [if_pos h2,if_pos ⟨by omega,by omega,h2.2.2⟩]
    have:j - off=(j - (off+1))+1:=by omega
    rw [this];rfl
   grind
theorem l6 (B o:Nat):∀ (vs:List Value) (i:Nat) (w:World) (cs:Array Value) (e:TypeId) (lo hi:Nat),w.heap[B]? =some (.cells cs e (lo,hi))->o+i+vs.length<=cs.size->
  (∀ j,o+i<=j->j<o+i+vs.length->¬ (lo<=j/\j<hi))->(∀ v∈vs,v.oneCell'=true)->
  (storeCells ⟨B,o,none⟩ vs i).run P w= .ok () (if vs= [] then w else lay w B (.cells ⟨aA cs.toList (o+i) vs⟩ e (lo,hi))):=by
 intro vs
 induction vs with
 |nil=>intro i w cs e lo hi _ _ _ _;simp [storeCells]
 |cons v vs ih=>
  intro i w cs e lo hi hb hsz hfr hone;have hi':o+i<cs.size:=by simp at hsz;omega
  have hadd:(⟨B,o,none⟩:Addr).add i=⟨B,o+i,none⟩:=by simp only [Addr.add];split<;>simp_all
  have hcell:w.cell? ⟨B,o+i,none⟩=some cs[o+i]:=by simp [World.cell?,hb,hi']
  have hfz:w.frozen? ⟨B,o+i,none⟩=false:=by
   have:=hfr (o+i) (zal _) (by simp);simp only [World.frozen?,hb];simp only [Bool.and_eq_false_iff,decide_eq_false_iff_not];omega
  have hst:=run_store P w ⟨B,o+i,none⟩ v .plain (hone v (by simp));simp only [hcell,hfz,Bool.false_eq_true,if_false] at hst;simp only [storeCells,hadd,Sem.run_bind,hst,Result.andThen_ok];have hlay:=Bb (o:=o+i) (v:=v) hb;rw [hlay]
  have h2:=ih (i+1) (lay w B (.cells (cs.setIfInBounds (o+i) v) e (lo,hi))) (cs.setIfInBounds (o+i) v) e lo hi (bC hb) (by grind)
   (fun j a b=>hfr j (by omega) (by simp;omega)) (fun x hx=>hone x (by simp [hx]))
  rw [h2];simp only [List.cons_ne_nil,if_false,aA]
  congr 1
  have hset:cs.setIfInBounds (o+i) v=⟨cs.toList.set (o+i) v⟩:=by apply Array.toList_inj.1;simp
  by_cases hv:vs= []
  .subst hv;simp [aA,hset]
  .rw [if_neg hv,QH]
   grind
theorem va {Γ:Ga} {w:World} {cs:List Value} {cs':Array Value} {base off:Nat} {vs vs':List Value} (hr:base+cs.length<=cs'.size)
  (hc:∀ (i:Nat) (v:Value),cs[i]? =some v->∃ v',cs'[base+i]? =some v'/\VR Γ w v v') (hv:bX Γ w vs vs'):
  ∀ (i:Nat) (v:Value),(aA cs off vs)[i]? =some v->∃ v',(aA cs'.toList (base+off) vs')[base+i]? =some v'/\VR Γ w v v':=by
 intro i v hi;have hlen:=hv.length;rw [eW] at hi;rw [eW];by_cases h:off<=i/\i<off+vs.length/\i<cs.length
 .rw [if_pos h] at hi
  obtain ⟨v',h1,h2⟩:=hv.get hi
  grind
 .rw [if_neg h] at hi
  obtain ⟨v',h1,h2⟩:=hc i v hi
  grind
theorem sw (hR:Rh Γ H w) {b off:Nat} {vs vs':List Value} {H':IH} (h:H.eJ b off vs=some H') (hv:bX Γ w vs vs'):
  ∃ w',(storeCells (Γ.at b off) vs').run P w= .ok () w'/\Rh Γ H' w'/\Ext Γ H w Γ H' w':=by
 unfold IH.eJ at h;split at h
 .rename_i he
  simp only [Option.some.injEq] at h;subst h;have:vs= []:=by simpa using he
  subst this;cases hv;exact ⟨w,by simp [storeCells],hR,.refl Γ H w⟩
 .rename_i he
  split at h
  .rename_i cs e fz ex sh hb
   split at h
   .rename_i hcond
    simp only [Option.some.injEq] at h;subst h;simp only [zae,decide_eq_true_eq,List.all_eq_true] at hcond;obtain ⟨⟨⟨hro,hfz⟩,hle⟩,hone⟩:=hcond;obtain ⟨cs',lo,hi,hr⟩:=hR.obj b _ hb;have hlen:=hv.length;have hne:vs'≠ []:=by
     rintro rfl;simp at hlen;simp [hlen] at he
    have hrun:=l6 (P:=P) (Γ.φ b).1 ((Γ.φ b).2+off) vs' 0 w cs' e lo hi hr.block (by have:=hr.room;omega)
     (fun j h1 h2 ⟨h3,h4⟩=>by
      rcases (hr.frozen hro).2 j h3 h4 with x |⟨_,x⟩
      .omega
      .have:=hr.room;omega)
     (fun v' hv'=>by
      obtain ⟨k,hk,rfl⟩:=List.mem_iff_getElem.1 hv';have hk':k<vs.length:=by omega
      obtain ⟨x,h1,h2⟩:=hv.get (zam hk');rw [zam hk] at h1;cases h1;exact h2.one (hone _ (List.getElem_mem _)))
    rw [if_neg hne] at hrun;have hs:=iL (cs':=⟨aA cs'.toList ((Γ.φ b).2+off+0) vs'⟩) (f':=(lo,hi)) hr.block (by simp [aM]);refine ⟨_,hrun,?_⟩;refine hR.gS _ hb hro (by simp) rfl rfl rfl hs (fun x hx=>bE hx) ?_;refine ⟨⟨aA cs'.toList ((Γ.φ b).2+off+0) vs'⟩,lo,hi,bC hr.block,?_,?_,?_,?_,hr.Gy⟩
    .have:=hr.room;simp [aM];omega
    .intro i v hi
     obtain ⟨v',h1,h2⟩:=va hr.room hr.cell hv i v hi;exact ⟨v',by simpa using h1,h2.mono (.refl Γ) hs⟩
    .intro hx;have:=hr.lM hx;simp [aM,this]
    .intro h0
     refine ⟨(hr.frozen h0).1,fun j h1 h2=>?_⟩;have:=(hr.frozen h0).2 j h1 h2;simpa [aM] using this
   .cases h
  .cases h
theorem HQ (hR:Rh Γ H w) {t:TypeId} {b off:Nat} {v v':Value} {H':IH} (h:nr P H t b off v=some H') (hv:VR Γ w v v'):
  ∃ w',(storeVar t (Γ.at b off) v').run P w= .ok () w'/\Rh Γ H' w'/\Ext Γ H w Γ H' w':=by
 unfold nr at h;split at h
 .rename_i i hi
  split at h
  .rename_i hsz
   have hne:v≠Iv.aO:=by
    rintro rfl;unfold IH.eJ at h;simp only [Iv.aO,Value.cells,List.isEmpty_cons,Bool.false_eq_true,if_false,List.all_cons,one,Bool.false_and,Bool.and_false] at h;split at h<;>simp at h
   have hc:=hv.cells hne;obtain ⟨w',h1,h2,h3⟩:=sw (P:=P) hR h hc;refine ⟨w',?_,h2,h3⟩;have hsz':v'.cells.size=i.size:=by rw [←hsz];have:=hc.length;simpa using this.symm
   simp [storeVar,aR hi,hsz',h1]
  .cases h
 .cases h
theorem gX (hR:Rh Γ H w) (e:TypeId) {cs:List Value} {cs':Array Value} (h:bX Γ w cs cs'.toList):
  Rh (Γ.next H.n (w.heap.size,0)) (bO H e cs) (w.alloc (.cells cs' e))/\Ext Γ H w (Γ.next H.n (w.heap.size,0)) (bO H e cs) (w.alloc (.cells cs' e)):=by
 have hn:¬ Γ.aT H.n:=fun x=>by have:=hR.aT _ x;omega
 refine hR.new _ _ ⟨cs',0,0,?_,?_,?_,?_,?_,fun x=>(by cases x)⟩
 .rw [Ga.bh];exact heap_alloc_new
 .rw [Ga.bh];have:=h.length;simp at this;simp;omega
 .intro i v hv
  obtain ⟨v',h1,h2⟩:=h.get hv;exact ⟨v',by rw [Ga.bh];simpa using h1,h2.mono (Ga.le_next hn) (.alloc w _)⟩
 .intro _;rw [Ga.bh];have:=h.length;simp at this;simp [this]
 grind
theorem VR.yE (n B:Nat):VR (Γ.next n (B,0)) w (ptrTo n) (.pointer (some ⟨B,0,none⟩)):=by
 have:=VR.ptr (Γ:=Γ.next n (B,0)) (w:=w) (b:=n) (o:=0) (.inr rfl);simpa [Ga.at,Ga.bh,ptrTo] using this
end Go.Iv
/- The operations, one by one (the first part). -/
namespace Go.Iv
open Go
variable {P:Program} {Γ:Ga} {H:IH} {w:World}
section inv
variable {v':Value}
theorem VR.BY {b:Bool} (h:VR Γ w (.bool b) v'):v'= .bool b:=by cases h;rfl
theorem VR.eU {k:IntKind} {n:Int} (h:VR Γ w (.int k n) v'):v'= .int k n:=by cases h;rfl
theorem VR.cQ {s:ByteArray} (h:VR Γ w (.string s) v'):v'= .string s:=by cases h;rfl
theorem VR.xq (h:VR Γ w (.pointer none) v'):v'= .pointer none:=by cases h;rfl
theorem VR.nR {a:Addr} (h:VR Γ w (.pointer (some a)) v'):∃ b o,a=⟨b,o,none⟩/\Γ.aT b/\v'= .pointer (some (Γ.at b o)):=by
 cases h with |ptr h=>grind
theorem VR.Bj (h:VR Γ w (.map none) v'):v'= .map none:=by cases h;rfl
theorem VR.KR {r:Nat} (h:VR Γ w (.map (some r)) v'):Γ.aT r/\v'= .map (some (Γ.φ r).1):=by cases h with |map h=>grind
theorem VR.TG {a:Array Value} (h:VR Γ w (.agg a) v'):∃ a',v'= .agg a'/\bX Γ w a.toList a'.toList:=by cases h with |agg h=>grind
theorem VR.RU {a:Array Value} (h:VR Γ w (.tuple a) v'):∃ a',v'= .tuple a'/\bX Γ w a.toList a'.toList:=by cases h with |tuple h=>grind
theorem VR.Fs {t:TypeId} {x:Value} (h:VR Γ w (.iface t x) v'):∃ x',v'= .iface t x'/\VR Γ w x x':=by cases h with |iface t h=>grind
theorem VR.ye (h:VR Γ w .nilIface v'):v'= .nilIface:=by cases h;rfl
theorem VR.pY (h:VR Γ w .nilFunc v'):v'= .nilFunc:=by cases h;rfl
theorem VR.Gq {fn:Fn} {a c:Array Value} (h:VR Γ w (.func fn a c) v') (hf:fW fn=true):∃ a' c',v'= .func fn a' c'/\bX Γ w a.toList a'.toList/\bX Γ w c.toList c'.toList:=by
 cases h with
 |func _ ha hc=>grind
 |yield=>simp [fW] at hf
theorem VR.N2 {l:Nat} {a c:Array Value} (h:VR Γ w (.func (.yield l) a c) v'):a=#[]/\c=#[]/\Γ.aT l/\v'= .func (.yield (Γ.φ l).1) #[] #[]:=by
 cases h with
 |func hf=>simp [fW] at hf
 |yield h=>grind
theorem VR.lR {l c:Nat} (h:VR Γ w (.slice none l c) v'):l=0/\c=0/\v'= .slice none 0 0:=by cases h;grind
theorem VR.fk {a:Addr} {l c:Nat} (h:VR Γ w (.slice (some a) l c) v'):∃ b o,a=⟨b,o,none⟩/\Γ.aT b/\
  (
   (c<ff/\l<=c/\∃ a',v'= .slice (some a') l c/\((c=0/\a'.block=(Γ.φ b).1)\/a'=Γ.at b o))\/
   ∃ s c' a',c=ff+s/\v'= .slice (some a') l c'/\l<=c'/\((c'=0/\l=0/\a'.block=(Γ.φ b).1)\/(a'=Γ.at b o/\Room w a' (c'*s)))):=by
 cases h with
 |slice h hc hl ha=>grind
 |dK h hl hr=>grind
theorem VR.jl {v v':Value} (h:VR Γ w v v') (ok t:Bool):VR Γ w (Iv.jl ok v t) (if ok then .tuple #[v',.bool t] else v'):=by
 unfold Iv.jl;cases ok
 .exact h
 .exact .tuple (.cons h (.cons (.bool t) .nil))
end inv
theorem gJ (b o n:Nat):(Γ.at b o).add n=Γ.at b (o+n):=by
 simp only [Ga.at,Addr.add];grind
abbrev bg (s:Sem Value):Sem Next:=do pure (.value (←s))
theorem ah {s:Sem Value} {v:Value} {w w':World} (h:s.run P w= .ok v w'):(bg s).run P w= .ok (.value v) w':=by simp [h]
theorem CQ (hR:Rh Γ H w) {c a b c' a' b':Value} {res:az} (h:nZ H c a b=some res) (hc:VR Γ w c c') (ha:VR Γ w a a') (hb:VR Γ w b b'):
  Good Γ H w ((do pure (.value (if ←asBool c' then a' else b')):Sem Next).run P w) res:=by
 unfold nZ at h;split at h
 .rename_i t
  cases h;rw [hc.BY];cases t
  .exact ai hR hb (by simp [asBool])
  .exact ai hR ha (by simp [asBool])
 .cases h
theorem yY (hR:Rh Γ H w) {e:TypeId} {res:az} (h:fR P H e=some res):Good Γ H w ((bg (Instr.alloc e true (.tuple #[]))).run P w) res:=by
 unfold fR at h;split at h
 .rename_i z hz
  cases h;have hzr:bX Γ w z.cells.toList z.cells.toList:=(VR.iZ (dx hz)).cells (by rintro rfl;have:=dx hz;simp [Iv.aO,free,aU] at this);obtain ⟨h1,h2⟩:=gX hR e hzr;exact ⟨_,_,_,ah (by simp [Instr.alloc,cK hz,newVar,newRow]),.yE _ _,h1,h2⟩
 .cases h
theorem QX {v:Value} (h:P8 v=true):v≠Iv.aO:=by rintro rfl;simp [P8,Iv.aO] at h
theorem FJ (hR:Rh Γ H w) {e:TypeId} {v v':Value} {res:az} (h:o7 H e v=some res) (hv:VR Γ w v v'):Good Γ H w ((bg (Instr.box e v')).run P w) res:=by
 unfold o7 at h;split at h
 .rename_i hok
  cases h;obtain ⟨h1,h2⟩:=gX hR e (hv.cells (QX hok));exact ⟨_,_,_,ah (by rfl),.yE _ _,h1,h2⟩
 .cases h
inductive Ol (Γ:Ga) (w:World):List (Nat×Value)->List (Nat×Value)->Prop
 |nil:Ol Γ w [] []
 |cons {i:Nat} {v v':Value} {l l':List (Nat×Value)} (h:VR Γ w v v') (t:Ol Γ w l l'):Ol Γ w ((i,v)::l) ((i,v')::l')
theorem su (off:Nat) (vs:List Value) (i:Nat) (cells:Array Value):
  ((vs.zipIdx i).foldl (fun (cs:Array Value) (x:Value×Nat)=>cs.setIfInBounds (off+x.2) x.1) cells).toList=aA cells.toList (off+i) vs:=by
 induction vs generalizing i cells with
 |nil=>rfl
 |cons v vs ih=>
  simp only [List.zipIdx_cons,List.foldl_cons,ih,aA]
  grind
theorem ua {place:Nat->Option (Nat×Nat)} {ps ps':List (Nat×Value)} (hp:Ol Γ w ps ps') (hok:ps.all (fun p=>P8 p.2)=true):
  ∀ {cells cells':Array Value} {r:Array Value},bX Γ w cells.toList cells'.toList->Instr.fill place cells ps=some r->
   ∃ r',Instr.fill place cells' ps'=some r'/\bX Γ w r.toList r'.toList:=by
 induction hp with
 |nil=>intro cells cells' r hc h;simp only [Instr.fill,Option.some.injEq] at h;subst h;exact ⟨_,rfl,hc⟩
 |@cons i v v' l l' hv t ih=>
  intro cells cells' r hc h;simp only [List.all_cons,zae] at hok;have hvc:=hv.cells (QX hok.1);have hlen:=hvc.length;have hlc:=hc.length;simp only [Instr.fill] at h ⊢;split at h
  .cases h
  .rename_i off size hpl
   have e1:v'.cells.size=v.cells.size:=by simpa using hlen.symm
   have e2:cells'.size=cells.size:=by simpa using hlc.symm
   simp only [e1,e2];split at h
   .cases h
   .rename_i hcond
    rw [if_neg hcond];refine ih hok.2 ?_ h;have h1:=su off v.cells.toList 0 cells;have h2:=su off v'.cells.toList 0 cells';rw [←Array.foldl_toList,←Array.foldl_toList];simp only [Array.toList_zipIdx];rw [h1,h2];have key:=va (Γ:=Γ) (w:=w) (cs:=cells.toList) (cs':=cells') (base:=0) (off:=off+0) (by simp;omega) (fun j x hj=>by
     obtain ⟨x',a,b⟩:=hc.get hj;exact ⟨x',by simpa using a,b⟩) hvc
    refine .N3 (by simp [aM,e2]) fun j x hj=>?_
    grind
theorem run_places (fs:List Field) {r:List (Nat×Nat)} (h:placesOf P fs=some r):
  (fs.mapM fun (f:Field)=>(do pure (f.offset,←sizeOf f.type):Sem (Nat×Nat))).run P w= .ok r w:=by
 induction fs generalizing r with
 |nil=>simp only [placesOf,Option.some.injEq] at h;subst h;rfl
 |cons f fs ih=>
  simp only [placesOf] at h;split at h
  .rename_i i r' hi hr
   simp only [Option.some.injEq] at h;subst h;simp only [List.mapM_cons,Sem.run_bind,aR hi,Result.andThen_ok,Sem.run_pure,ih hr]
  .cases h
theorem AG (hR:Rh Γ H w) {t:TypeId} {ps:List (Nat×Value)} {ps':Array (Nat×Value)} {res:az} (h:ka P H t ps=some res) (hp:Ol Γ w ps ps'.toList):
  Good Γ H w ((bg (Instr.build t ps')).run P w) res:=by
 unfold ka at h;split at h
 .rename_i hok
  split at h
  .rename_i z hz
   have hzr:bX Γ w z.cells.toList z.cells.toList:=(VR.iZ (dx hz)).cells (by rintro rfl;have:=dx hz;simp [Iv.aO,free,aU] at this);split at h
   .rename_i fs hu
    split at h
    .rename_i places hpl
     split at h
     .rename_i cells hfill
      cases h;obtain ⟨r',h1,h2⟩:=ua hp hok hzr hfill;refine ai hR (.agg h2) (ah ?_);have hm:(fs.mapM fun (f:Field)=>(do pure (f.offset,←sizeOf f.type):Sem (Nat×Nat))).run P w= .ok places.toArray w:=by
       rw [Array.mapM_eq_mapM_toList,Sem.run_map,run_places fs.toList hpl];rfl
      simp only [Instr.build,Sem.run_bind,cK hz,Result.andThen_ok,run_underlying hu,hm];simp [h1]
     .cases h
    .cases h
   .rename_i n e hu
    split at h
    .rename_i i hi
     split at h
     .rename_i cells hfill
      cases h;obtain ⟨r',h1,h2⟩:=ua hp hok hzr hfill;refine ai hR (.agg h2) (ah ?_);simp only [Instr.build,Sem.run_bind,cK hz,Result.andThen_ok,run_underlying hu,aR hi];simp [h1]
     .cases h
    .cases h
   .cases h
  .cases h
 .cases h
theorem Ab (z:Array Value) (n:Nat):((Array.range (n*z.size)).map (fun i=>z[i%z.size]!)).toList=eY z.toList n:=by
 induction n with
 |zero=>simp [eY]
 |succ n ih=>
  have h1:(eY z.toList (n+1))=z.toList++eY z.toList n:=rfl;rw [h1,←ih];apply List.ext_getElem?;intro i;simp only [Array.toList_map,Array.toList_range,List.getElem?_map];by_cases hz:z.size=0
  .simp [hz]
  by_cases hi:i<(n+1)*z.size
  .rw [List.getElem?_range hi]
   by_cases h2:i<z.size
   .rw [List.getElem?_append_left (by simpa using h2)]
    simp [Nat.mod_eq_of_lt h2,h2]
   .rw [List.getElem?_append_right (by simp;omega)]
    simp only [Array.length_toList,List.getElem?_map];have h3:i - z.size<n*z.size:=by rw [Nat.succ_mul] at hi;omega
    rw [List.getElem?_range h3];simp only [Option.map_some];have:(i - z.size)%z.size=i%z.size:=(Nat.mod_eq_sub_mod (by omega)).symm;rw [this]
  .rw [List.getElem?_eq_none (by simpa using hi)]
   grind
end Go.Iv
/- The operations, one by one (the second part). -/
namespace Go.Iv
open Go
variable {P:Program} {Γ:Ga} {H:IH} {w:World}
theorem bX.eY {z z':List Value} (h:bX Γ w z z') (n:Nat):bX Γ w (Iv.eY z n) (Iv.eY z' n):=by
 induction n with
 |zero=>exact .nil
 |succ n ih=>exact h.append ih
theorem vL {t:TypeId} {z:Value} (hz:zeroOf P t=some z):bX Γ w z.cells.toList z.cells.toList:=
 (VR.iZ (dx hz)).cells (by rintro rfl;have:=dx hz;simp [Iv.aO,free,aU] at this)
theorem pL (hR:Rh Γ H w) {t:TypeId} {len:Nat} {ps:List (Nat×Value)} {ps':Array (Nat×Value)} {res:az} (h:aZ P H t len ps=some res) (hp:Ol Γ w ps ps'.toList):
  Good Γ H w ((bg (Instr.buildSlice t len ps')).run P w) res:=by
 unfold aZ at h;split at h
 .rename_i e i he
  obtain ⟨hu,hi⟩:=fU he;split at h
  .rename_i hcond
   simp only [zae,decide_eq_true_eq] at hcond;obtain ⟨hbig',hok⟩:=hcond;have hbig:len*i.size+len<=2^24:=by rw [←Nat.mul_succ];exact hbig'
   split at h
   .rename_i z hz
    split at h
    .rename_i hsz
     split at h
     .rename_i cells hfill
      cases h;have hzr:=vL (Γ:=Γ) (w:=w) hz;have harr:((Array.range (len*i.size)).map (fun j=>z.cells[j%z.cells.size]!))=⟨Iv.eY z.cells.toList len⟩:=by
       apply Array.toList_inj.1;rw [←hsz,Ab]
      obtain ⟨r',h1,h2⟩:=ua hp hok (hzr.eY len) hfill;obtain ⟨h3,h4⟩:=gX hR e h2;have hn:(Γ.next H.n (w.heap.size,0)).aT H.n:= .inr rfl;refine ⟨_,_,_,ah (v:= .slice (some ⟨w.heap.size,0,none⟩) len len) (w':=w.alloc (.cells r' e)) ?_,?_,h3,h4⟩
      .simp only [Instr.buildSlice,Sem.run_bind,run_underlying hu,Result.andThen_ok,aR hi]
       rw [if_neg (by omega)];by_cases h0:len*i.size=0
       .have hnil:Iv.eY z.cells.toList len= []:=by
         rw [←Ab,hsz,h0];simp
        have hfill':Instr.fill (fun j=>some (j*i.size,i.size)) #[] ps'.toList=some r':=by
         rw [←h1,hnil]
        simp [h0,Array.range_zero',hfill',newRow]
       .simp only [h0,if_false,Sem.run_bind,cK hz,Result.andThen_ok,Sem.run_pure]
        rw [harr];simp [h1,newRow]
      .have:=VR.slice (Γ:=Γ.next H.n (w.heap.size,0)) (w:=w.alloc (.cells r' e)) (o:=0) (l:=len) (c:=len) hn (by unfold ff;omega) (zal _) (.inr rfl)
       simpa [Ga.at,Ga.bh] using this
     .cases h
    .cases h
   .cases h
  .cases h
 .cases h
theorem B4 (hR:Rh Γ H w) {t:TypeId} {a a':Value} {res:az} (h:dc P H t a=some res) (ha:VR Γ w a a'):Good Γ H w ((bg (Instr.loadAt t a')).run P w) res:=by
 unfold dc at h;split at h
 .rename_i b off
  split at h
  .rename_i v hv
   cases h;obtain ⟨b',o',e,hd,rfl⟩:=ha.nR;cases e;obtain ⟨v',h1,h2⟩:=wR hR hv;exact ai hR h2 (ah (by simp [Instr.loadAt,Instr.sureAddr,h1]))
  .cases h
 .cases h
theorem zL (hR:Rh Γ H w) {t:TypeId} {a a' v v':Value} {res:az} (h:bK P H t a v=some res) (ha:VR Γ w a a') (hv:VR Γ w v v'):
  Good Γ H w ((do Instr.storeAt t a' v';pure .skip:Sem Next).run P w) res:=by
 unfold bK at h;split at h
 .rename_i b off
  split at h
  .rename_i H' hst
   cases h;obtain ⟨b',o',e,hd,rfl⟩:=ha.nR;cases e;obtain ⟨w',h1,h2,h3⟩:=HQ hR hst hv;exact ⟨w',Γ,by simp [Instr.storeAt,Instr.sureAddr,h1],h2,h3⟩
  .cases h
 .cases h
theorem qU (hR:Rh Γ H w) {t:TypeId} {v v':Value} {res:az} (h:e8 P H t v=some res) (hv:VR Γ w v v'):Good Γ H w ((bg (Instr.makeInterface t v')).run P w) res:=by
 unfold e8 at h;split at h
 .cases h
 .rename_i d hn hu
  cases h;refine ai hR (.iface t hv) (ah ?_);simp only [Instr.makeInterface,Sem.run_bind,run_underlying hu,Result.andThen_ok];rfl
 .cases h
theorem bX.eK {ρ ρ':Operand->Value} (hv:∀ x,VR Γ w (ρ x) (ρ' x)) (l:List Operand):bX Γ w (l.map ρ) (l.map ρ'):=by
 induction l with
 |nil=>exact .nil
 |cons x l ih=>exact .cons (hv x) ih
theorem Ol.eK {ρ ρ':Operand->Value} (hv:∀ x,VR Γ w (ρ x) (ρ' x)) (l:List (Nat×Operand)):
  Ol Γ w (l.map fun p=>(p.1,ρ p.2)) (l.map fun p=>(p.1,ρ' p.2)):=by
 induction l with
 |nil=>exact .nil
 |cons x l ih=>exact .cons (hv x.2) ih
theorem yR (hR:Rh Γ H w) (o:bN) (o':Obj) (ho:gd (Γ.next H.n (w.heap.size,0)) (w.alloc o') H.n o) (v v':Value) {s:Sem Value}
  (hv:VR (Γ.next H.n (w.heap.size,0)) (w.alloc o') v v') (hs:s.run P w= .ok v' (w.alloc o')):Good Γ H w ((bg s).run P w) (.val v (H.new o)):=by
 obtain ⟨h1,h2⟩:=hR.new o o' ho;exact ⟨_,_,_,ah hs,hv,h1,h2⟩
theorem uV (hR:Rh Γ H w) {t:TypeId} {r r':Option Value} {res:az} (h:bZ P H t r=some res) (hr:∀ v,r=some v->∃ v',r'=some v'/\VR Γ w v v') (hn:r=none->r'=none):
  Good Γ H w ((bg (Instr.makeMap t r')).run P w) res:=by
 have hobj:gd (Γ.next H.n (w.heap.size,0)) (w.alloc (.map #[] 0)) H.n (.map [] 0):=⟨#[],by rw [Ga.bh];exact heap_alloc_new,.nil⟩;have hval:VR (Γ.next H.n (w.heap.size,0)) (w.alloc (.map #[] 0)) (.map (some H.n)) (.map (some w.heap.size)):=by
  have:=VR.map (Γ:=Γ.next H.n (w.heap.size,0)) (w:=w.alloc (.map #[] 0)) (r:=H.n) (.inr rfl);simpa using this
 unfold bZ at h;split at h
 .cases h
  rw [hn rfl];exact yR hR _ _ hobj _ _ hval (by rfl)
 .rename_i hint
  split at h
  .rename_i k' n hu
   cases h;obtain ⟨v',rfl,hv⟩:=hr _ rfl;rw [hv.eU];exact yR hR _ _ hobj _ _ hval (by simp [Instr.makeMap,run_underlying hu,asInt,asIntOf])
  .cases h
theorem qN (hR:Rh Γ H w) {s:TypeId} {x x':Value} {f:Nat} {res:az} (h:cD P H s x f=some res) (hx:VR Γ w x x'):Good Γ H w ((bg (Instr.fieldAt s x' f)).run P w) res:=by
 unfold cD at h;split at h
 .rename_i fs b off hu
  split at h
  .rename_i fd hf
   split at h
   .rename_i i hi
    split at h
    .cases h
    .rename_i h0
     cases h;obtain ⟨b',o',e,hd,rfl⟩:=hx.nR;cases e;refine ai hR (.ptr (o:=off+fd.offset) hd) (ah ?_);simp only [Instr.fieldAt,Sem.run_bind,run_underlying hu,Result.andThen_ok,hf];simp [Instr.sureAddr,fieldPlace,aR hi,h0,gJ]
   .cases h
  .cases h
 .cases h
theorem vU {t:TypeId} {cs:List Value} {cs':Array Value} {off:Nat} {v:Value} (h:partOf P t cs off=some v) (hc:bX Γ w cs cs'.toList):
  ∃ v',(part t cs' off).run P w= .ok v' w/\VR Γ w v v':=by
 unfold partOf at h;split at h
 .rename_i ha
  split at h
  .rename_i i hi
   cases h;refine ⟨.agg (cs'.extract off (off+i.size)),by simp [part,km ha,aR hi],.agg ?_⟩;have:=(hc.drop off).take i.size
   simp_all
  .cases h
 .rename_i ha
  obtain ⟨v',h1,h2⟩:=hc.get h;have h1':cs'[off]? =some v':=by simpa using h1
  exact ⟨v',by simp [part,km ha,h1'],h2⟩
 .cases h
theorem z8 (hR:Rh Γ H w) {t:TypeId} {x x':Value} {f:Nat} {res:az} (h:kj P H t x f=some res) (hx:VR Γ w x x'):Good Γ H w ((bg (Instr.field t x' f)).run P w) res:=by
 unfold kj at h;split at h
 .rename_i fs cs hu
  split at h
  .rename_i fd hf
   unfold valOf at h;split at h
   .rename_i v hv
    cases h;obtain ⟨cs',rfl,hc⟩:=hx.TG;obtain ⟨v',h1,h2⟩:=vU hv hc;refine ai hR h2 (ah ?_);simp only [Instr.field,Sem.run_bind,run_underlying hu,Result.andThen_ok,hf];simp [asAgg,h1]
   .cases h
  .cases h
 .cases h
theorem qY (hR:Rh Γ H w) {t:TypeId} {x x' ix ix':Value} {res:az} (h:bm P H t x ix=some res) (hx:VR Γ w x x') (hi:VR Γ w ix ix'):
  Good Γ H w ((bg (Instr.indexAt t x' ix')).run P w) res:=by
 unfold bm at h;split at h
 .rename_i n e b off k i hu
  split at h
  .rename_i inf hinf
   split at h
   .rename_i hc
    cases h;simp only [zae,decide_eq_true_eq] at hc;obtain ⟨b',o',e',hd,rfl⟩:=hx.nR;cases e';rw [hi.eU];refine ai hR (.ptr (o:=off+i.toNat*inf.size) hd) (ah ?_);simp only [Instr.indexAt,Sem.run_bind,run_underlying hu,Result.andThen_ok,asIntOf,Sem.run_pure,Instr.sureAddr];simp [hc.1,hc.2,aR hinf,gJ]
   .cases h
  .cases h
 .rename_i e b off len cap k i hu
  split at h
  .rename_i inf hinf
   split at h
   .rename_i hc
    cases h;simp only [zae,decide_eq_true_eq] at hc;rw [hi.eU];obtain ⟨b',o',e',hd,hs⟩:=hx.fk;cases e';rcases hs with ⟨hcap,hl,a',rfl,ha⟩ |⟨s,c',a',hcap,rfl,hl,hs⟩
    .obtain rfl:a'=Γ.at b off:=ha.resolve_left (fun x=>by omega)
     refine ai hR (.ptr (o:=off+i.toNat*inf.size) hd) (ah ?_);simp only [Instr.indexAt,Sem.run_bind,run_underlying hu,Result.andThen_ok,asIntOf,Sem.run_pure];simp [hc.1,hc.2,aR hinf,gJ]
    .rcases hs with ⟨h0,h0',_⟩ |⟨rfl,_⟩
     .omega
     .refine ai hR (.ptr (o:=off+i.toNat*inf.size) hd) (ah ?_)
      simp only [Instr.indexAt,Sem.run_bind,run_underlying hu,Result.andThen_ok,asIntOf,Sem.run_pure];simp [hc.1,hc.2,aR hinf,gJ]
   .cases h
  .cases h
 .cases h
theorem RQ (s:ByteArray) (i:Nat):s[i]? =(bl s)[i]? :=by
 by_cases h:i<s.size
 .rw [ByteArray.getElem?_lt' s i h]
  have h':i<s.data.size:=h;simp only [bl,Array.getElem?_toList,Array.getElem?_eq_getElem h'];rfl
 .rw [ByteArray.getElem?_ge' s i h]
  have h':¬ i<s.data.size:=h;simp only [bl,Array.getElem?_toList]
  grind
theorem zP (hR:Rh Γ H w) {t:TypeId} {x x' ix ix':Value} {res:az} (h:jg P H t x ix=some res) (hx:VR Γ w x x') (hi:VR Γ w ix ix'):
  Good Γ H w ((bg (Instr.index t x' ix')).run P w) res:=by
 unfold jg at h;split at h
 .rename_i s k i hu
  split at h
  .rename_i h0
   split at h
   .rename_i c hc
    cases h;rw [hi.eU,hx.cQ];refine ai hR (.int _ _) (ah ?_);simp only [Instr.index,Sem.run_bind,run_underlying hu,Result.andThen_ok,asIntOf,Sem.run_pure];simp [h0,RQ,hc]
   .cases h
  .cases h
 .rename_i n e cs k i hu
  split at h
  .rename_i hc
   simp only [zae,decide_eq_true_eq] at hc;split at h
   .rename_i inf hinf
    unfold valOf at h;split at h
    .rename_i v hv
     cases h;obtain ⟨cs',rfl,hcs⟩:=hx.TG;obtain ⟨v',h1,h2⟩:=vU hv hcs;rw [hi.eU];refine ai hR h2 (ah ?_);simp only [Instr.index,Sem.run_bind,run_underlying hu,Result.andThen_ok,asIntOf,Sem.run_pure];simp [hc.1,hc.2,aR hinf,h1]
    .cases h
   .cases h
  .cases h
 .cases h
theorem zu (hR:Rh Γ H w) {t:TypeId} {x x':Value} {res:az} (h:qj P H t x=some res) (hx:VR Γ w x x'):Good Γ H w ((bg (Instr.range t x')).run P w) res:=by
 unfold qj at h;split at h
 .rename_i s hu
  cases h;rw [hx.cQ];refine yR hR _ (.stringIter s 0) ?_ _ _ (VR.yE _ _) ?_
  .unfold gd;rw [Ga.bh];exact ⟨heap_alloc_new,rfl⟩
  .simp only [Instr.range,Sem.run_bind,run_underlying hu,Result.andThen_ok,Sem.run_pure];simp
 .cases h
theorem BD (hR:Rh Γ H w) {x x':Value} {ty:TypeId} {res:az} (h:qM H x=some res) (hx:VR Γ w x x'):Good Γ H w ((bg (Instr.next x' true ty)).run P w) res:=by
 unfold qM at h;split at h
 .rename_i r
  split at h
  .rename_i s pos hb
   split at h
   .cases h
   .rename_i hro
    obtain ⟨b',o',e',hd,rfl⟩:=hx.nR;cases e';have ho:=hR.obj r _ hb;have ho':w.heap[(Γ.φ r).1]? =some (.stringIter s pos):=ho.1;have hbase:(Γ.φ r).2=0:=ho.2;split at h
    .rename_i hp
     cases h;have hs:eD w (lay w (Γ.φ r).1 (.stringIter s (pos+(Utf8.decode s pos).2))):=xw ho' (by simp)
     obtain ⟨h1,h2⟩:=hR.gS (w':=lay w (Γ.φ r).1 (.stringIter s (pos+(Utf8.decode s pos).2))) (.eM s (pos+(Utf8.decode s pos).2)) hb (by omega) (by simp) rfl rfl rfl hs
      (fun x hx=>bE hx) ⟨bC ho',hbase⟩
     refine ⟨_,_,_,ah (v:= .tuple #[.bool true,.int .i64 pos,.int .i32 (Utf8.decode s pos).1]) ?_,.tuple (.cons (.bool true) (.cons (.int _ _) (.cons (.int _ _) .nil))),h1,h2⟩;simp [Instr.next,Ga.at,hbase,ho',hp,getObj,setObj,Sem.run,goInt,lay]
    .rename_i hp
     cases h;refine ai hR (.tuple (.cons (.bool false) .nil)) (ah ?_);simp [Instr.next,Ga.at,hbase,ho',hp,getObj,Sem.run]
  .cases h
 .cases h
theorem pg (hR:Rh Γ H w) {x x':Value} {xt asserted:TypeId} {ok:Bool} {res:az} (h:fE P H x asserted ok=some res) (hx:VR Γ w x x'):
  Good Γ H w ((bg (Instr.typeAssert x' xt asserted ok)).run P w) res:=by
 unfold fE at h;cases h
theorem vM (hR:Rh Γ H w) {x x':Value} {i:Nat} {res:az} (h:fO H x i=some res) (hx:VR Γ w x x'):Good Γ H w ((bg (Instr.extract x' i)).run P w) res:=by
 unfold fO at h;split at h
 .rename_i vs
  unfold valOf at h;split at h
  .rename_i v hv
   cases h;obtain ⟨vs',rfl,hvs⟩:=hx.RU;obtain ⟨v',h1,h2⟩:=hvs.get hv;have h1':vs'[i]? =some v':=by simpa using h1
   exact ai hR h2 (ah (by simp [Instr.extract,h1']))
  .cases h
 .cases h
theorem qL (hR:Rh Γ H w) {t:TypeId} {l l' c c':Value} {res:az} (h:cB P H t l c=some res) (hl:VR Γ w l l') (hc:VR Γ w c c'):
  Good Γ H w ((bg (Instr.makeSlice t l' c')).run P w) res:=by
 unfold cB at h;split at h
 .rename_i e i ln cn he
  obtain ⟨hu,hi⟩:=fU he;split at h
  .rename_i hcond
   simp only [zae,decide_eq_true_eq] at hcond;obtain ⟨⟨h0,h1⟩,h2⟩:=hcond;split at h
   .rename_i z hz
    split at h
    .rename_i hsz
     cases h;rw [hl.eU,hc.eU];have hzi:i.zero=some z:=by
      have:=hz;unfold zeroOf at this;simp only [hi] at this;split at this
      .grind
      .cases this
     have hb0:0<=cn*(i.bytes:Int):=Int.mul_nonneg (by omega) (by omega);have hbb:cn*(i.bytes:Int)+cn<=1099511627776:=by
      have e1:cn*((i.bytes:Int)+1)=cn*(i.bytes:Int)+cn:=by rw [Int.mul_add,Int.mul_one]
      have e2:((roomy:Nat):Int)=1099511627776:=by decide
      rw [←e1,←e2];exact h2
     have hrun:=run_make (P:=P) w t e i z hu hi hzi .i64 .i64 ln cn h0 h1 (by grind) (by omega);have hcells:madeCells z.cells (cn.toNat*i.size)=⟨Iv.eY z.cells.toList cn.toNat⟩:=by
      apply Array.toList_inj.1;unfold madeCells;rw [←hsz,Ab]
     have hzr:=(vL (Γ:=Γ) (w:=w) hz).eY cn.toNat;obtain ⟨h3,h4⟩:=gX (cs':=⟨Iv.eY z.cells.toList cn.toNat⟩) hR e hzr;refine ⟨_,_,_,ah (by rw [hrun,hcells]),?_,h3,h4⟩;have:=VR.slice (Γ:=Γ.next H.n (w.heap.size,0)) (w:=w.alloc (.cells ⟨Iv.eY z.cells.toList cn.toNat⟩ e)) (o:=0) (l:=ln.toNat) (c:=cn.toNat) (.inr rfl) (by unfold ff;omega) (by omega) (.inr rfl);simpa [Ga.at,Ga.bh] using this
    .cases h
   .cases h
  .cases h
 .cases h
end Go.Iv
/- The operations, one by one (the third part). -/
namespace Go.Iv
open Go
variable {P:Program} {Γ:Ga} {H:IH} {w:World}
theorem my (s:ByteArray):s.toList=bl s:=ByteArray.toList_eq s
theorem MU (s:ByteArray):ba (bl s)=s:=by cases s;rfl
theorem IK (s r:ByteArray):s++r=ba (bl s++bl r):=by
 rfl
abbrev tJ (P:Program) (op:BinOp) (t:TypeId) (x y:Operand) (a b:Value) (w:World):Result Next:=
 ((do pure (.value (←(do eqGuard op t x y a b;Go.binOp op t a b:Sem Value)))):Sem Next).run P w
theorem bz {op:BinOp} {t:TypeId} {x y:Operand} {a b v:Value} (hg:eqGuard op t x y a b=pure ()) (hb:(Go.binOp op t a b).run P w= .ok v w):
  tJ P op t x y a b w= .ok (.value v) w:=by
 simp_all
def sG (neg:Bool):BinOp:=if neg then .neq else .eql
def kF:Value->Bool
 | .pointer _ | .slice .. | .map _ | .func .. | .nilFunc | .iface .. | .nilIface | .bool _=>true
 |_=>false
theorem BC (neg:Bool) (t:TypeId) {a b:Value} (ha:kF a=true):
  (Go.binOp (sG neg) t a b).run P w=((Op.equal t a b).run P w).andThen fun r w'=> .ok (.bool (if neg then !r else r)) w':=by
 cases neg<;>cases a<;>first |(simp [kF] at ha;done) |(cases b<;>simp [sG,Go.binOp])
theorem bQ (t:TypeId) (a b:Value):Op.equal t a b=Op.equalIn (9999+1) t a b:=rfl
theorem My (b o o':Nat):(Γ.at b o==Γ.at b o')=(o==o'):=by
 by_cases h:o=o'
 .subst h;simp
 .have:Γ.at b o≠Γ.at b o':=by
   intro e;simp only [Ga.at,Addr.mk.injEq] at e;omega
  grind
theorem Lj {t:TypeId} {a b a' b':Value} {r:Bool} (h:dV P H t a b=some r) (ha:VR Γ w a a') (hb:VR Γ w b b'):
  (kF a'=true\/∃ s r,a'= .string s/\b'= .string r)/\(kF a'=true->(Op.equal t a' b').run P w= .ok r w):=by
 unfold dV at h;split at h
 all_goals (first |(cases h;done) |skip)
 .rename_i s s' hu
  rw [ha.cQ,hb.cQ];exact ⟨.inr ⟨_,_,rfl,rfl⟩,fun h=>by simp [kF] at h⟩
 .rename_i e p hu
  cases h;rw [ha.xq];refine ⟨.inl rfl,fun _=>?_⟩;rw [bQ,Op.equalIn];cases p with
  |none=>rw [hb.xq];simp [run_underlying hu]
  |some p=>obtain ⟨b1,o1,rfl,_,rfl⟩:=hb.nR;simp [run_underlying hu]
 .rename_i e p hu
  cases h;obtain ⟨b1,o1,rfl,_,rfl⟩:=ha.nR;rw [hb.xq];refine ⟨.inl rfl,fun _=>?_⟩;rw [bQ,Op.equalIn];simp [run_underlying hu]
 .rename_i e b1 o1 b2 o2 hu
  split at h
  .rename_i hc
   cases h;simp only [zae,beq_iff_eq,bne_iff_ne,ne_eq] at hc;obtain ⟨⟨hbb,hsz⟩,_⟩:=hc;subst hbb;obtain ⟨b3,o3,e3,hd,rfl⟩:=ha.nR;cases e3;obtain ⟨b4,o4,e4,_,rfl⟩:=hb.nR;cases e4;refine ⟨.inl rfl,fun _=>?_⟩;rw [bQ,Op.equalIn];cases hi:P.info? e with
   |none=>simp [hi] at hsz
   |some i=>
    simp only [hi,Option.map_some,Option.getD_some] at hsz;have:(sameAddr (Γ.at b1 o1) (Γ.at b1 o2)).run P w= .ok (o1==o2) w:=by
     rw [←My (Γ:=Γ) b1];simp [sameAddr,Ga.at]
    simp [run_underlying hu,aR hi,hsz,this]
  .cases h
 .rename_i e l c p n m hu
  cases h;obtain ⟨rfl,rfl,rfl⟩:=ha.lR;refine ⟨.inl rfl,fun _=>?_⟩;rw [bQ,Op.equalIn];cases p with
  |none=>obtain ⟨_,_,rfl⟩:=hb.lR;simp [run_underlying hu]
  |some p=>
   obtain ⟨b1,o1,rfl,_,hs⟩:=hb.fk;rcases hs with ⟨_,_,_,rfl,_⟩ |⟨s,c',a',_,rfl,_,_⟩<;>simp [run_underlying hu]
 .rename_i e p l c n m hu
  cases h;obtain ⟨_,_,rfl⟩:=hb.lR;obtain ⟨b1,o1,rfl,_,hs⟩:=ha.fk;rcases hs with ⟨_,_,_,rfl,_⟩ |⟨s,c',a',_,rfl,_,_⟩
  all_goals
   refine ⟨.inl rfl,fun _=>?_⟩;rw [bQ,Op.equalIn];simp [run_underlying hu]
 .rename_i k e p hu
  cases h;rw [ha.Bj];refine ⟨.inl rfl,fun _=>?_⟩;rw [bQ,Op.equalIn];cases p with
  |none=>rw [hb.Bj];simp [run_underlying hu]
  |some p=>rw [hb.KR.2];simp [run_underlying hu]
 .rename_i k e p hu
  cases h;rw [ha.KR.2,hb.Bj];refine ⟨.inl rfl,fun _=>?_⟩;rw [bQ,Op.equalIn];simp [run_underlying hu]
 .rename_i ps rs v hu
  cases h;rw [ha.pY,hb.pY];refine ⟨.inl rfl,fun _=>?_⟩;rw [bQ,Op.equalIn];simp [run_underlying hu]
 .rename_i ps rs v fn x y hu
  cases h;rw [ha.pY];refine ⟨.inl rfl,fun _=>?_⟩;rw [bQ,Op.equalIn];cases hb with
  |func=>simp [run_underlying hu]
  |yield=>simp [run_underlying hu]
 .rename_i ps rs v fn x y hu
  cases h;rw [hb.pY];cases ha with
  |func=>exact ⟨.inl rfl,fun _=>by rw [bQ,Op.equalIn];simp [run_underlying hu]⟩
  |yield=>exact ⟨.inl rfl,fun _=>by rw [bQ,Op.equalIn];simp [run_underlying hu]⟩
 .rename_i ms d v hu
  cases h;rw [ha.ye];obtain ⟨x,rfl,_⟩:=hb.Fs;exact ⟨.inl rfl,fun _=>by rw [bQ,Op.equalIn];simp [run_underlying hu]⟩
 .rename_i ms d v hu
  cases h;rw [hb.ye];obtain ⟨x,rfl,_⟩:=ha.Fs;exact ⟨.inl rfl,fun _=>by rw [bQ,Op.equalIn];simp [run_underlying hu]⟩
theorem wG {neg:Bool} {t:TypeId} {x y:Operand} {a b:Value} (h:kF a=true) (hn:a= .nilIface->b≠ .nilIface):eqGuard (sG neg) t x y a b=pure ():=by
 cases a<;>first |(simp [kF] at h;done) |(cases neg<;>cases b<;>first |rfl |grind)
theorem sb (hR:Rh Γ H w) {neg:Bool} {t:TypeId} {x y:Operand} {a b a' b':Value} {res:az} (h:bP P H neg t x y a b=some res) (ha:VR Γ w a a') (hb:VR Γ w b b'):
  Good Γ H w (tJ P (sG neg) t x y a' b' w) res:=by
 unfold bP at h;split at h
 .rename_i k n k' m
  split at h
  .rename_i hk
   subst hk;cases h;rw [ha.eU,hb.eU];refine ai hR (.bool _) (bz (eqGuard_at_int ..) ?_);cases neg
   .simp [sG,binOp_eql]
   .simp [sG,binOp_neq]
  .cases h
 .rename_i s r
  cases h;rw [ha.cQ,hb.cQ];refine ai hR (.bool _) (bz (eqGuard_at_string ..) ?_);cases neg
  .simp [sG,binOp_string_eql,my]
  .simp [sG,binOp_string_neq,my]
 .rename_i hni hns
  split at h
  .rename_i r hr
   cases h;have key:=Lj (P:=P) hr ha hb;rcases key.1 with hbe |⟨s,s',rfl,rfl⟩
   .refine ai hR (.bool _) (bz (wG hbe ?_) ?_)
    .rintro rfl rfl
     have h1:a= .nilIface:=by cases ha with |nilIface=>rfl |aO=>simp [dV] at hr
     have h2:b= .nilIface:=by cases hb with |nilIface=>rfl |aO=>subst h1;simp [dV] at hr
     subst h1 h2;simp [dV] at hr
    .rw [BC neg t hbe,key.2 hbe];rfl
   .exfalso
    have h1:a= .string s:=by cases ha with |string=>rfl |aO=>simp [dV] at hr
    have h2:b= .string s':=by cases hb with |string=>rfl |aO=>subst h1;simp [dV] at hr
    grind
  .split at h
   .rename_i hf
    simp only [zae] at hf;split at h
    .rename_i v hv
     split at h
     .rename_i hok
      cases h;rw [ha.dY hf.1,hb.dY hf.2];exact ai hR (.bW hok) (ah (jD hv w))
     .cases h
    .cases h
   .cases h
theorem EJ {op:BinOp} {t:TypeId} {x y:Operand} {k k':IntKind} {n m:Int} {v:Value} (hR:Rh Γ H w) (h:bR P (Go.binOp op t (.int k n) (.int k' m))=some v) (hf:aU v=true):
  Good Γ H w (tJ P op t x y (.int k n) (.int k' m) w) (.val v H):=
 ai hR (.bW hf) (bz (eqGuard_at_int ..) (jD h w))
theorem FU (hR:Rh Γ H w) {op:BinOp} {t:TypeId} {x y:Operand} {a b a' b':Value} {res:az} (h:aX P H op t x y a b=some res) (ha:VR Γ w a a') (hb:VR Γ w b b'):
  Good Γ H w (tJ P op t x y a' b' w) res:=by
 unfold aX at h;split at h
 .exact sb hR h ha hb
 .exact sb hR h ha hb
 .split at h
  .split at h
   .rename_i hk;subst hk;cases h;rw [ha.eU,hb.eU]
    exact ai hR (.bool _) (bz (eqGuard_at_int ..) (by rw [binOp_lss,fu];rfl))
   .cases h
  .cases h;rw [ha.cQ,hb.cQ]
   exact ai hR (.bool _) (bz (eqGuard_at_string ..) (by rw [binOp_string_lss,my,my];rfl))
  .cases h
 .split at h
  .split at h
   .rename_i hk;subst hk;cases h;rw [ha.eU,hb.eU]
    exact ai hR (.bool _) (bz (eqGuard_at_int ..) (by rw [binOp_leq,dn];rfl))
   .cases h
  .cases h
 .split at h
  .split at h
   .rename_i hk;subst hk;cases h;rw [ha.eU,hb.eU]
    exact ai hR (.bool _) (bz (eqGuard_at_int ..) (by rw [binOp_gtr,fu];rfl))
   .cases h
  .cases h
 .split at h
  .split at h
   .rename_i hk;subst hk;cases h;rw [ha.eU,hb.eU]
    exact ai hR (.bool _) (bz (eqGuard_at_int ..) (by rw [binOp_geq,dn];rfl))
   .cases h
  .cases h
 .split at h
  .split at h
   .rename_i hk;subst hk;cases h;rw [ha.eU,hb.eU]
    exact ai hR (.int _ _) (bz (eqGuard_at_int ..) (by rw [binOp_add];rfl))
   .cases h
  .split at h
   .rename_i hsz
    cases h;rw [ha.cQ,hb.cQ];refine ai hR (.string _) (bz (eqGuard_at_string ..) ?_);rename_i s r;have:¬ ((s.size+r.size:Nat):Int)>IntKind.i64.max:=by
     have e:IntKind.i64.max=9223372036854775807:=by decide
     have e2:roomy=1099511627776:=by decide
     rw [e];rw [e2] at hsz;omega
    rw [binOp_string_add];simp only [Op.stringOp,if_neg this,IK];rfl
   .cases h
  .cases h
 .split at h
  .split at h
   .rename_i hk;subst hk;cases h;rw [ha.eU,hb.eU]
    exact ai hR (.int _ _) (bz (eqGuard_at_int ..) (by rw [binOp_sub];rfl))
   .cases h
  .cases h
 .split at h
  .split at h
   .rename_i v hv
    split at h
    .rename_i hf
     cases h;rw [ha.eU,hb.eU];exact EJ hR hv hf
    .cases h
   .cases h
  .cases h
theorem IV (hR:Rh Γ H w) {op:UnOp} {a a':Value} {res:az} (h:DL P H op a=some res) (ha:VR Γ w a a'):Good Γ H w ((bg (Op.unary op a')).run P w) res:=by
 unfold DL at h;split at h
 .split at h
  .cases h;rw [ha.BY];exact ai hR (.bool _) (ah rfl)
  .cases h
 .split at h
  .rename_i v hv
   split at h
   .rename_i hf
    cases h;rw [ha.eU];exact ai hR (.bW hf) (ah (jD hv w))
   .cases h
  .cases h
 .cases h
theorem sP (hR:Rh Γ H w) {o:Oper} {x:Operand} {ρ:Operand->Value} (ho:o.op= .nilCheck x) {a:Value} {res:az} (h:eV H a=some res) (ha:VR Γ w a (ρ x)):
  Good Γ H w ((execOp ρ o).run P w) res:=by
 unfold eV at h;split at h
 .cases h
  obtain ⟨b,o',rfl,hd,e⟩:=ha.nR;exact ai hR (.ptr hd) (by simp only [execOp,ho,e];rfl)
 .cases h
  obtain ⟨a',c',e,h1,h2⟩:=ha.Gq rfl;exact ai hR (.func rfl h1 h2) (by simp only [execOp,ho,e];rfl)
 .cases h
  obtain ⟨rfl,rfl,hd,e⟩:=ha.N2;exact ai hR (.yield hd) (by simp only [execOp,ho,e];rfl)
 .cases h
theorem od {t k e:TypeId} (h:pr P t=some (k,e)):P.underlying t=some (.map k e):=by
 unfold pr at h
 grind
theorem ou {empty:Bool} {kt:TypeId} {k:Value} (h:ma P empty kt k=true):free k=true:=by
 unfold ma at h;split at h
 .rfl
 .rfl
 .rfl
 .simp only [zae] at h;exact h.1
 .cases h
theorem gf {empty:Bool} {kt:TypeId} {k:Value} (h:ma P empty kt k=true):(Instr.checkKey empty 10000 kt k).run P w= .ok () w:=by
 unfold ma at h;split at h
 .rename_i hu;rw [show (10000:Nat)=9999+1 from rfl,Instr.checkKey];simp [run_underlying hu]
 .rename_i hu;rw [show (10000:Nat)=9999+1 from rfl,Instr.checkKey];simp [run_underlying hu]
 .rename_i hu;rw [show (10000:Nat)=9999+1 from rfl,Instr.checkKey];simp [run_underlying hu]
 .simp only [zae] at h
  have h2:=h.2;split at h2
  .rename_i hr;exact jD hr w
  .cases h2
 .cases h
def Nv (Γ:Ga) (w:World):Option (Nat×Value)->Option (Nat×Value)->Prop
 |none,none=>True
 |some (i,v),some (i',v')=>i=i'/\VR Γ w v v'
 |_,_=>False
theorem RC (a b:ByteArray):(a==b)=(bl a==bl b):=by
 show (a.data==b.data)=(a.data.toList==b.data.toList)
 simp_all
theorem lh {kt:TypeId} {d:TypeDesc} {k:Value} (hd:P.underlying kt=some d) (hs:(∃ q n,k= .int q n)/\(∃ q,d= .int q)\/(∃ s,k= .string s)/\d= .string\/(∃ b,k= .bool b)/\d= .bool):
  ∀ {es es':List MapEntry},gD Γ w es es'->∀ {i:Nat} {r:Option (Nat×Value)},iF P kt k es i=some r->∃ r',Instr.findNow d k es' i=some r'/\Nv Γ w r r':=by
 intro es es' hE
 induction hE with
 |nil=>intro i r h;simp only [iF,Option.some.injEq] at h;subst h;exact ⟨none,rfl,trivial⟩
 |@cons e e' l l' hk hf hv hb t ih=>
  intro i r h;have hkey:=hk.dY hf;simp only [iF] at h;have key:gK P kt k e.key=some true\/gK P kt k e.key=some false:=by
   split at h
   .grind
   .grind
   .cases h
  have hn:Instr.sameNow d k e'.key=gK P kt k e.key:=by
   rw [hkey];rcases hs with ⟨⟨q,n,rfl⟩,⟨q',rfl⟩⟩ |⟨⟨s,rfl⟩,rfl⟩ |⟨⟨b,rfl⟩,rfl⟩
   .cases hek:e.key<;>simp_all [gK,Instr.sameNow]
   .cases hek:e.key<;>simp_all [gK,Instr.sameNow,RC]
   .cases hek:e.key<;>simp_all [gK,Instr.sameNow]
  rcases key with hc |hc
  .simp only [hc,Option.some.injEq] at h
   subst h;exact ⟨some (i,e'.val),by simp only [Instr.findNow,hn,hc],rfl,hv⟩
  .simp only [hc] at h
   obtain ⟨r',h1,h2⟩:=ih h;exact ⟨r',by simp only [Instr.findNow,hn,hc];exact h1,h2⟩
theorem vw {kt:TypeId} {cs:Array Value}:
  ∀ {es es':List MapEntry},gD Γ w es es'->∀ {i:Nat} {r:Option (Nat×Value)},iF P kt (.agg cs) es i=some r->∃ r',(Instr.findAsking kt (.agg cs) es' i).run P w= .ok r' w/\Nv Γ w r r':=by
 intro es es' hE
 induction hE with
 |nil=>intro i r h;simp only [iF,Option.some.injEq] at h;subst h;exact ⟨none,by rfl,trivial⟩
 |@cons e e' l l' hk hf hv hb t ih=>
  intro i r h;have hkey:=hk.dY hf;simp only [iF] at h;have hrun:∀ b,gK P kt (.agg cs) e.key=some b->(Op.equal kt (.agg cs) e'.key).run P w= .ok b w:=by
   intro b hb;rw [hkey];unfold gK at hb;split at hb
   .grind
   .grind
   .grind
   .rename_i a b' heq hek;cases heq;rw [hek];exact jD hb w
   .cases hb
  split at h
  .rename_i hc
   simp only [Option.some.injEq] at h;subst h;exact ⟨some (i,e'.val),by simp [Instr.findAsking,hrun _ hc],rfl,hv⟩
  .rename_i hc
   obtain ⟨r',h1,h2⟩:=ih h;exact ⟨r',by simp [Instr.findAsking,hrun _ hc,h1],h2⟩
  .cases h
theorem gB {empty:Bool} {kt:TypeId} {k:Value} (hgo:ma P empty kt k=true) {es es':List MapEntry} (hE:gD Γ w es es') {r:Option (Nat×Value)} (h:iF P kt k es 0=some r):
  ∃ r',(Instr.findKey kt k es').run P w= .ok r' w/\Nv Γ w r r':=by
 unfold ma at hgo;split at hgo
 .rename_i q q' n hu
  obtain ⟨r',h1,h2⟩:=lh hu (.inl ⟨⟨_,_,rfl⟩,⟨_,rfl⟩⟩) hE h;exact ⟨r',by simp [Instr.findKey,run_underlying hu,h1],h2⟩
 .rename_i s hu
  obtain ⟨r',h1,h2⟩:=lh hu (.inr (.inl ⟨⟨_,rfl⟩,rfl⟩)) hE h;exact ⟨r',by simp [Instr.findKey,run_underlying hu,h1],h2⟩
 .rename_i b hu
  obtain ⟨r',h1,h2⟩:=lh hu (.inr (.inr ⟨⟨_,rfl⟩,rfl⟩)) hE h;exact ⟨r',by simp [Instr.findKey,run_underlying hu,h1],h2⟩
 .rename_i fs cs hu
  obtain ⟨r',h1,h2⟩:=vw hE h;refine ⟨r',?_,h2⟩;simp only [Instr.findKey,Sem.run_bind,run_underlying hu,Result.andThen_ok];cases hE with
  |nil=>simp only [Instr.findNow];simp only [Instr.findAsking,Sem.run_pure] at h1;exact h1
  |cons=>simp only [Instr.findNow,Instr.sameNow];exact h1
 .cases hgo
theorem iz {r:Nat} {es:Array MapEntry} {ck:Nat} (h:w.heap[r]? =some (.map es ck)):(getObj r).run P w= .ok (.map es ck) w:=by
 simp [getObj,Sem.run,h]
theorem gD.isEmpty {es es':List MapEntry} (h:gD Γ w es es'):es'.isEmpty=es.isEmpty:=by cases h<;>rfl
theorem wB (hR:Rh Γ H w) {t:TypeId} {x k x' k':Value} {ok:Bool} {res:az} (h:cN P H t x k ok=some res) (hx:VR Γ w x x') (hk:VR Γ w k k'):
  Good Γ H w ((bg (Instr.lookup t x' k' ok)).run P w) res:=by
 unfold cN at h;split at h
 .rename_i kt e r hm
  have hu:=od hm;split at h
  .rename_i es ck hb
   split at h
   .rename_i hgo
    obtain ⟨hd,rfl⟩:=hx.KR;rw [hk.dY (ou hgo)];obtain ⟨es',ho,hE⟩:=hR.obj r _ hb;have hem:es'.isEmpty=es.isEmpty:=by rw [←hE.isEmpty];simp
    split at h
    .rename_i i v hf
     cases h;obtain ⟨r',h1,h2⟩:=gB hgo hE hf
     match r',h2 with
     |some (i',v'),⟨_,hv⟩=>
      refine ai hR (hv.jl ok true) (ah ?_);simp only [Instr.lookup,Sem.run_bind,run_underlying hu,Result.andThen_ok,iz ho,hem,gf hgo,h1,Sem.run_pure]
    .rename_i hf
     split at h
     .rename_i z hz
      cases h;obtain ⟨r',h1,h2⟩:=gB hgo hE hf
      match r',h2 with
      |none,_=>
       refine ai hR ((VR.iZ (dx hz)).jl ok false) (ah ?_);simp only [Instr.lookup,Sem.run_bind,run_underlying hu,Result.andThen_ok,iz ho,hem,gf hgo,h1,Sem.run_pure,cK hz]
     .cases h
    .cases h
   .cases h
  .cases h
 .rename_i kt e hm
  have hu:=od hm;split at h
  .rename_i hgo
   split at h
   .rename_i z hz
    cases h;rw [hx.Bj,hk.dY (ou hgo)];obtain ⟨r',h1,h2⟩:=gB (Γ:=Γ) (w:=w) hgo .nil (r:=none) rfl
    match r',h2 with
    |none,_=>
     refine ai hR ((VR.iZ (dx hz)).jl ok false) (ah ?_);have hgo':=gf (w:=w) hgo;simp only [Instr.lookup,Sem.run_bind,run_underlying hu,Result.andThen_ok,Sem.run_pure];simp [hgo',h1,cK hz]
   .cases h
  .cases h
 .cases h
theorem gD.set {es es':List MapEntry} (h:gD Γ w es es') {k v v':Value} (hk:VR Γ w k k) (hf:free k=true) (hv:VR Γ w v v') (i:Nat):
  gD Γ w (zf k v es i) (es'.modify i fun e=>{ e with key:=k,val:=v' }):=by
 induction h generalizing i with
 |nil=>simp [zf];exact .nil
 |cons hk' hf' hv' hb t ih=>
  cases i with
  |zero=>simp only [zf,List.modify_zero_cons];exact .cons hk hf hv hb t
  |succ i=>simp only [zf,List.modify_succ_cons];exact .cons hk' hf' hv' hb (ih i)
theorem gD.snoc {es es':List MapEntry} (h:gD Γ w es es') {e e':MapEntry} (hk:VR Γ w e.key e'.key) (hf:free e.key=true) (hv:VR Γ w e.val e'.val) (hb:e'.born=e.born):gD Γ w (es++ [e]) (es'++ [e']):=by
 induction h with
 |nil=>exact .cons hk hf hv hb .nil
 |cons a b c d _ ih=>exact .cons a b c d ih
theorem gD.get {es es':List MapEntry} (h:gD Γ w es es') {i:Nat} {e:MapEntry} (hi:es[i]? =some e):∃ e',es'[i]? =some e'/\e'.key=e.key:=by
 induction h generalizing i with
 |nil=>simp at hi
 |cons hk hf _ _ _ ih=>
  cases i with
  |zero=>simp at hi;subst hi;exact ⟨_,by simp,hk.dY hf⟩
  |succ i=>grind
theorem ng (hR:Rh Γ H w) {t:TypeId} {m k v m' k' v':Value} {res:az} (h:fw P H t m k v=some res) (hm':VR Γ w m m') (hk:VR Γ w k k') (hv:VR Γ w v v'):
  Good Γ H w ((do Instr.mapUpdate t m' k' v';pure .skip:Sem Next).run P w) res:=by
 unfold fw at h;split at h
 .rename_i kt e r hm
  have hu:=od hm;split at h
  .cases h
  .rename_i hro
   split at h
   .rename_i es ck hb
    split at h
    .rename_i hgo
     obtain ⟨hd,rfl⟩:=hm'.KR;have hfk:=ou hgo;rw [hk.dY hfk];have hkk:VR Γ w k k:= .iZ hfk;obtain ⟨es',ho,hE⟩:=hR.obj r _ hb
     have gS:∀ (es1:List MapEntry) (es1':Array MapEntry) (ck1:Nat),gD Γ w es1 es1'.toList->
       Rh Γ (H.put r (.map es1 ck1)) (lay w (Γ.φ r).1 (.map es1' ck1))/\Ext Γ H w Γ (H.put r (.map es1 ck1)) (lay w (Γ.φ r).1 (.map es1' ck1)):=by
      intro es1 es1' ck1 hE1;have hs:eD w (lay w (Γ.φ r).1 (.map es1' ck1)):=xw ho (by simp);exact hR.gS _ hb (by omega) (by simp) rfl rfl rfl hs (fun x hx=>bE hx) ⟨es1',bC ho,hE1.mono (.refl Γ) hs⟩
     have hset:∀ o,(setObj (Γ.φ r).1 o).run P w= .ok () (lay w (Γ.φ r).1 o):=by
      intro o;simp [setObj,Sem.run,ho,lay]
     split at h
     .rename_i i v0 hf
      split at h
      .rename_i e0 he0
       split at h
       .rename_i hsame
        cases h;obtain ⟨r',h1,h2⟩:=gB hgo hE hf
        match r',h2 with
        |some (i',v0'),⟨hi,_⟩=>
         subst hi;obtain ⟨e0',he0',hkey⟩:=hE.get he0;have he0'':es'[i]? =some e0':=by simpa using he0'
         obtain ⟨h3,h4⟩:=gS (zf k v es i) (es'.modify i fun e=>{ e with key:=k,val:=v' }) ck (by simpa using hE.set hkk hfk hv i);refine ⟨_,_,?_,h3,h4⟩
         simp only [Instr.mapUpdate,Sem.run_bind,run_underlying hu,Result.andThen_ok,iz ho,gf hgo,h1,he0'',Option.map_some,Option.getD_some,hkey,Instr.keyThatStays,hsame,if_true,
          Sem.run_pure,hset]
       .cases h
      .cases h
     .rename_i hf
      cases h;obtain ⟨r',h1,h2⟩:=gB hgo hE hf
      match r',h2 with
      |none,_=>
       obtain ⟨h3,h4⟩:=gS (es++ [{ key:=k,val:=v,born:=ck }]) (es'.push { key:=k,val:=v',born:=ck }) (ck+1) (by simpa using hE.snoc (e:={ key:=k,val:=v,born:=ck }) (e':={ key:=k,val:=v',born:=ck }) hkk hfk hv rfl);refine ⟨_,_,?_,h3,h4⟩;simp only [Instr.mapUpdate,Sem.run_bind,run_underlying hu,Result.andThen_ok,iz ho,gf hgo,h1,hset,Sem.run_pure]
     .cases h
    .cases h
   .cases h
 .cases h
end Go.Iv
/- The operations, one by one (the fourth part): slices. -/
namespace Go.Iv
open Go
variable {P:Program} {Γ:Ga} {H:IH} {w:World}
def dW (Γ:Ga) (w:World):Option Value->Option Value->Prop
 |none,none=>True
 |some v,some v'=>VR Γ w v v'
 |_,_=>False
theorem dW.eK {ρ ρ':Operand->Value} (hv:∀ x,VR Γ w (ρ x) (ρ' x)) (o:Option Operand):dW Γ w (o.map ρ) (o.map ρ'):=by
 cases o with
 |none=>exact trivial
 |some x=>exact hv x
theorem mz {y Y n:Nat} {v v':Value} (h:bound y v=some n) (hv:VR Γ w v v') (hy:y<=Y) (code:BoundsCode):(Instr.sliceBound v' Y code).run P w= .ok n w/\n<=y:=by
 unfold bound at h;split at h
 .rename_i k i
  split at h
  .rename_i hc
   cases h;simp only [zae,decide_eq_true_eq] at hc;rw [hv.eU];refine ⟨?_,by omega⟩;have h2:0<=i/\i<=(Y:Int):=by omega
   simp [Instr.sliceBound,asIntOf,h2]
  .cases h
 .cases h
theorem Db {y n:Nat} {o o':Option Value} (h:bw y 0 o=some n) (ho:dW Γ w o o') (code:BoundsCode):
  n<=y/\((o'=none/\n=0)\/∃ v',o'=some v'/\(Instr.sliceBound v' y code).run P w= .ok n w):=by
 cases o with
 |none=>cases o' with
  |none=>simp only [bw,Option.some.injEq] at h;grind
  |some=>exact ho.elim
 |some v=>cases o' with
  |none=>exact ho.elim
  |some v'=>obtain ⟨a,b⟩:=mz (P:=P) h ho (zal _) code;grind
theorem iE {b:Bool} {len top cap h l:Nat} {lo hi lo' hi':Option Value} (hh:bw top len hi=some h) (hl:bw h 0 lo=some l) (hlo:dW Γ w lo lo') (hhi:dW Γ w hi hi') (htop:top<=cap) (hlen:len<=top):
  (Instr.sliceBounds b len cap lo' hi' none).run P w= .ok (l,h,cap) w/\l<=h/\h<=top:=by
 obtain ⟨h2,h1⟩:=Db (P:=P) hl hlo .sliceB;cases hi with
 |none=>cases hi' with
  |some=>exact hhi.elim
  |none=>
   simp only [bw,Option.some.injEq] at hh;subst hh;refine ⟨?_,h2,hlen⟩;rcases h1 with ⟨rfl,rfl⟩ |⟨v',rfl,h1⟩
   .rfl
   .simp [Instr.sliceBounds,h1]
 |some v=>cases hi' with
  |none=>exact hhi.elim
  |some v'=>
   obtain ⟨h3,h4⟩:=mz (P:=P) (v:=v) hh hhi htop (if b then .sliceAcap else .sliceAlen);refine ⟨?_,h2,h4⟩;rcases h1 with ⟨rfl,rfl⟩ |⟨v',rfl,h1⟩
   .simp [Instr.sliceBounds,h3]
   .simp [Instr.sliceBounds,h1,h3]
theorem sa {b:Bool} {len y cap m h l:Nat} {lo lo':Option Value} {hv hv' mv mv':Value} (hm:bound y mv=some m) (hh:bound m hv=some h) (hl:bw h 0 lo=some l) (hlo:dW Γ w lo lo') (hhi:VR Γ w hv hv')
  (hmv:VR Γ w mv mv') (hy:y<=cap):
  (Instr.sliceBounds b len cap lo' (some hv') (some mv')).run P w= .ok (l,h,m) w/\l<=h/\h<=m/\m<=y:=by
 obtain ⟨h2,h1⟩:=Db (P:=P) hl hlo .slice3C;obtain ⟨h3,h4⟩:=mz (P:=P) hm hmv hy (if b then .slice3Acap else .slice3Alen);obtain ⟨h5,h6⟩:=mz (P:=P) hh hhi (zal _) .slice3B;refine ⟨?_,h2,h6,h4⟩;rcases h1 with ⟨rfl,rfl⟩ |⟨v',rfl,h1⟩
 .simp [Instr.sliceBounds,h3,h5]
 .simp [Instr.sliceBounds,h1,h3,h5]
theorem vE (s:ByteArray) (l h:Nat):s.extract l h=ba (((bl s).drop l).take (h - l)):=by
 conv=>lhs;rw [←MU s]
 exact ByteArray.extract_mk (bl s) l h
theorem wq {t e:TypeId} {i:TypeInfo} (hu:P.underlying t=some (.slice e)) (hi:P.info? e=some i) {a:Option Addr} {len cap:Nat} {x':Value} {lo hi' mx lo' hi'' mx':Option Value} {v:Value}
  (h:bG a i.size len cap lo hi' mx=some v) (hx:VR Γ w (.slice a len cap) x') (hlo:dW Γ w lo lo') (hhi:dW Γ w hi' hi'') (hmx:dW Γ w mx mx'):
  ∃ v',(Instr.sliceAt t x' lo' hi'' mx').run P w= .ok v' w/\VR Γ w v v':=by
 have start:∀ (a':Option Addr) (len' cap' l h m:Nat),(Instr.sliceBounds true len' cap' lo' hi'' mx').run P w= .ok (l,h,m) w->
   (Instr.sliceAt t (.slice a' len' cap') lo' hi'' mx').run P w= .ok (.slice (if m=l then a' else a'.map (·.add (l*i.size))) (h - l) (m - l)) w:=by
  intro a' len' cap' l h m hb;simp only [Instr.sliceAt,Sem.run_bind,run_underlying hu,Result.andThen_ok,Instr.slice,hb,aR hi,Sem.run_pure]
 unfold bG at h;split at h
 .-- nil
  split at h
  .rename_i hb hh
   split at h
   .rename_i l hl
    cases h;obtain ⟨rfl,rfl,rfl⟩:=hx.lR;cases mx' with
    |some=>exact hmx.elim
    |none=>
     obtain ⟨h1,h2,h3⟩:=iE (P:=P) (b:=true) (cap:=0) hh hl hlo hhi (zal _) (zal _)
     grind
   .cases h
  .cases h
 .rename_i b off
  cases mx' with
  |some=>exact hmx.elim
  |none=>
   obtain ⟨b1,o1,e1,hd,hs⟩:=hx.fk;cases e1;split at h
   .rename_i hcap
    split at h
    .rename_i hcs
     have hcs':cap=ff+i.size:=by simpa using hcs
     split at h
     .rename_i hb hh
      split at h
      .rename_i l hl
       cases h;rcases hs with ⟨hc,_⟩ |⟨s,c',a',hc,rfl,hlc,hr⟩
       .omega
       .obtain rfl:s=i.size:=by omega
        obtain ⟨h1,h2,h3⟩:=iE (P:=P) (b:=true) (cap:=c') hh hl hlo hhi hlc (zal _);refine ⟨_,start _ _ _ _ _ _ h1,?_⟩;subst hc;by_cases hcl:c'=l
        .rw [if_pos hcl]
         exact .dK hd (by omega) (.inl ⟨by omega,by omega,by rcases hr with ⟨_,_,x⟩ |⟨rfl,_⟩<;>first |exact x |rfl⟩)
        .rw [if_neg hcl]
         rcases hr with ⟨hc0,hl0,_⟩ |⟨rfl,hroom⟩
         .omega
         .simp only [Option.map_some,gJ]
          refine .dK hd (by omega) (.inr ⟨rfl,?_⟩);obtain ⟨cs,el,f,hb1,hb2⟩:=hroom;refine ⟨cs,el,f,hb1,?_⟩;simp only [Ga.at] at hb2 ⊢;rw [Nat.sub_mul];have:l*i.size<=c'*i.size:=Nat.mul_le_mul_right _ (by omega);omega
      .cases h
     .cases h
    .cases h
   .rename_i hcap
    split at h
    .rename_i hb hh
     split at h
     .rename_i l hl
      cases h;rcases hs with ⟨hc,hlc,a',rfl,ha⟩ |⟨s,c',a',hc,rfl,hlc,hr⟩
      .obtain ⟨h1,h2,h3⟩:=iE (P:=P) (b:=true) (cap:=cap) hh hl hlo hhi (zal _) hlc
       refine ⟨_,start _ _ _ _ _ _ h1,?_⟩;by_cases hcl:cap=l
       .rw [if_pos hcl]
        exact .slice hd (by omega) (by omega) (.inl ⟨by omega,by rcases ha with ⟨_,x⟩ |rfl<;>first |exact x |rfl⟩)
       .rw [if_neg hcl]
        obtain rfl:=ha.resolve_left (fun x=>by omega);simp only [Option.map_some,gJ];exact .slice hd (by omega) (by omega) (.inr rfl)
      .omega
     .cases h
    .cases h
 .rename_i b off mv
  cases mx' with
  |none=>exact hmx.elim
  |some mv'=>
   obtain ⟨b1,o1,e1,hd,hs⟩:=hx.fk;cases e1;split at h
   .rename_i m hm
    split at h
    .rename_i hmu
     split at h
     .rename_i hv
      cases hi'' with
      |none=>exact hhi.elim
      |some hv'=>
       split at h
       .rename_i hb hh
        split at h
        .rename_i l hl
         cases h;rcases hs with ⟨hc,hlc,a',rfl,ha⟩ |⟨s,c',a',hc,rfl,hlc,hr⟩
         .rw [if_neg (by omega)] at hm
          obtain ⟨h1,h2,h3,h4⟩:=sa (P:=P) (b:=true) (len:=len) (cap:=cap) hm hh hl hlo hhi hmx (zal _);refine ⟨_,start _ _ _ _ _ _ h1,?_⟩;by_cases hcl:m=l
          .rw [if_pos hcl]
           exact .slice hd (by omega) (by omega) (.inl ⟨by omega,by rcases ha with ⟨_,x⟩ |rfl<;>first |exact x |rfl⟩)
          .rw [if_neg hcl]
           obtain rfl:=ha.resolve_left (fun x=>by omega);simp only [Option.map_some,gJ];exact .slice hd (by omega) (by omega) (.inr rfl)
         .rw [if_pos (by omega)] at hm
          obtain ⟨h1,h2,h3,h4⟩:=sa (P:=P) (b:=true) (len:=len) (cap:=c') hm hh hl hlo hhi hmx hlc;refine ⟨_,start _ _ _ _ _ _ h1,?_⟩;by_cases hcl:m=l
          .rw [if_pos hcl]
           exact .slice hd (by omega) (by omega) (.inl ⟨by omega,by rcases hr with ⟨_,_,x⟩ |⟨rfl,_⟩<;>first |exact x |rfl⟩)
          .rw [if_neg hcl]
           rcases hr with ⟨hc0,hl0,_⟩ |⟨rfl,hroom⟩
           .omega
           .simp only [Option.map_some,gJ]
            exact .slice hd (by omega) (by omega) (.inr rfl)
        .cases h
       .cases h
     .cases h
    .cases h
   .cases h
 .cases h
theorem Ax (hR:Rh Γ H w) {t:TypeId} {x x':Value} {lo hi mx lo' hi' mx':Option Value} {res:az} (h:cU P H t x lo hi mx=some res) (hx:VR Γ w x x') (hlo:dW Γ w lo lo') (hhi:dW Γ w hi hi') (hmx:dW Γ w mx mx'):
  Good Γ H w ((bg (Instr.sliceAt t x' lo' hi' mx')).run P w) res:=by
 unfold cU at h;split at h
 .rename_i s hu
  split at h
  .rename_i hb hh
   split at h
   .rename_i l hl
    cases h;rw [hx.cQ];cases mx' with
    |some=>exact hmx.elim
    |none=>
     obtain ⟨h1,h2,h3⟩:=iE (P:=P) (b:=false) (cap:=s.size) hh hl hlo hhi (zal _) (zal _);refine ai hR (.string _) (ah ?_);simp only [Instr.sliceAt,Sem.run_bind,run_underlying hu,Result.andThen_ok,Instr.slice,Option.isSome_none,Bool.false_eq_true,if_false,h1,Sem.run_pure,vE]
   .cases h
  .cases h
 .rename_i e a len cap hu
  split at h
  .rename_i i hi
   split at h
   .rename_i v hv
    cases h;obtain ⟨v',h1,h2⟩:=wq hu hi hv hx hlo hhi hmx;exact ai hR h2 (ah h1)
   .cases h
  .cases h
 .rename_i n e b off hu
  split at h
  .rename_i i hi
   split at h
   .rename_i hn
    split at h
    .rename_i hb hh
     split at h
     .rename_i l hl
      cases h;obtain ⟨b1,o1,e1,hd,rfl⟩:=hx.nR;cases e1;cases mx' with
      |some=>exact hmx.elim
      |none=>
       obtain ⟨h1,h2,h3⟩:=iE (P:=P) (b:=false) (cap:=n) hh hl hlo hhi (zal _) (zal _);refine ai hR (v':= .slice (some (if n=l then Γ.at b off else (Γ.at b off).add (l*i.size))) (hb - l) (n - l)) ?_ (ah ?_)
       .by_cases hnl:n=l
        .rw [if_pos hnl];exact .slice hd (by omega) (by omega) (.inl ⟨by omega,rfl⟩)
        .rw [if_neg hnl,gJ];exact .slice hd (by omega) (by omega) (.inr rfl)
       .simp only [Instr.sliceAt,Sem.run_bind,run_underlying hu,Result.andThen_ok,Instr.sureAddr,Sem.run_pure,h1,aR hi]
     .cases h
    .cases h
   .cases h
  .cases h
 .cases h
end Go.Iv
