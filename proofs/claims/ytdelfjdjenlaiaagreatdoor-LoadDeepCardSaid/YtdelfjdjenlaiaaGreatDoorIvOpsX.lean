/- The operations: what the ideal evaluator answers is what the model's operation gives in every related world. -/
import Derived.Test.YtdelfjdjenlaiaaGreatDoorIvRel
import Derived.Laws.Cells
import Derived.Laws.MakeOwn
import Derived.Laws.Append
import Derived.Laws.Strings
import Derived.Laws.AppendOwn
set_option linter.unusedSimpArgs false
set_option linter.unusedVariables false
namespace Go.Iv
open Go
variable {P:Program} {Γ:Ga} {H:IH} {w:World}
theorem jC {t:TypeId} {i:TypeInfo} (h:P.info? t=some i) (w:World):(typeInfo t).run P w= .ok i w:=by
 simp [typeInfo,h]
theorem aX {t:TypeId} {i:TypeInfo} (h:P.info? t=some i) (w:World):(sizeOf t).run P w= .ok i.size w:=by
 simp [sizeOf,jC h]
theorem dd {t:TypeId} {z:Value} (h:zeroOf P t=some z) (w:World):(zeroValue t).run P w= .ok z w:=by
 unfold zeroOf at h;split at h
 ·rename_i i hi
  split at h
  ·rename_i z' hz
   split at h
   ·cases h;simp [zeroValue,jC hi,hz]
   ·cases h
  ·cases h
 ·cases h
theorem dN {t:TypeId} {z:Value} (h:zeroOf P t=some z):free z=true:=by
 unfold zeroOf at h;split at h
 ·split at h
  ·split at h
   ·rename_i hf;cases h;exact hf
   ·cases h
  ·cases h
 ·cases h
theorem kR {t:TypeId} {b:Bool} (h:eK P t=some b) (w:World):(isAgg t).run P w= .ok b w:=by
 unfold eK at h;cases hu:P.underlying t with
 |none=>simp [hu] at h
 |some d=>
  simp only [isAgg,Sem.run_bind,run_underlying hu,Result.andThen_ok];cases d<;>simp_all
theorem eP {t e:TypeId} {i:TypeInfo} (h:bM P t=some (e,i)):P.underlying t=some (.slice e)/\P.info? e=some i:=by
 unfold bM at h;split at h
 ·rename_i e' hu
  split at h
  ·rename_i i' hi
   simp only [Option.some.injEq,Prod.mk.injEq] at h;obtain ⟨rfl,rfl⟩:=h;exact ⟨hu,hi⟩
  ·cases h
 ·cases h
theorem VR.dC (hR:Rh Γ H w) {fi:FI} {T:En} {a:Act} (hT:TR Γ w fi T a.tmps) (x:Operand):VR Γ w (Iv.dC fi T x) (a.eval x):=by
 cases x with
 |tmp t=>exact hT.get t
 |const v=>
  simp only [Iv.dC,Act.eval];split
  ·rename_i h;exact .jk h
  ·exact .aS _
 |global g=>
  simp only [Iv.dC,Act.eval];split
  ·rename_i h
   have hg:=hR.cE g h;have:=VR.ptr (w:=w) (o:=0) hg.1;simpa [Ga.at,hg.2] using this
  ·exact .aS _
 |func f=>exact .func rfl .nil .nil
def Good (Γ:Ga) (H:IH) (w:World) (r:Result Next):ag->Prop
 | .val v H'=>∃ v' w' Γ',r= .ok (.value v') w'/\VR Γ' w' v v'/\Rh Γ' H' w'/\Ext Γ H w Γ' H' w'
 | .skip H'=>∃ w' Γ',r= .ok .skip w'/\Rh Γ' H' w'/\Ext Γ H w Γ' H' w'
 | .panic v H'=>∃ v' w' Γ',r= .halt (.panic v') w'/\VR Γ' w' v v'/\Rh Γ' H' w'/\Ext Γ H w Γ' H' w'
 | .defer d H'=>H'=H/\∃ fn c c' as as',eU fn=true/\d={ target:= .fn fn c,args:=as }/\r= .ok (.defer { target:= .fn fn c',args:=as' }) w/\cB Γ w c.toList c'.toList/\cB Γ w as.toList as'.toList
theorem aj (hR:Rh Γ H w) {v v':Value} (h:VR Γ w v v') {r:Result Next} (hr:r= .ok (.value v') w):Good Γ H w r (.val v H):=
 ⟨v',w,Γ,hr,h,hR,.refl Γ H w⟩
theorem kb {α:Type} {s:Sem α} {a:α} (h:bQ P s=some a) (w:World):s.run P w= .ok a w:=by
 induction s with
 |pure b=>simp [bQ] at h;simp [Sem.run,h]
 |program k ih=>simp only [bQ] at h;simp only [Sem.run];exact ih P h
 |_=>simp [bQ] at h
theorem NZ {b:Nat} {cs:List Value} {e:TypeId} {fz:Nat} {ex sh:Bool} (hR:Rh Γ H w) (hb:H.get b=some (.cells cs e fz ex sh)) {i:Nat} {v:Value} (hi:cs[i]? =some v):
  ∃ v',w.cell? (Γ.at b i)=some v'/\VR Γ w v v':=by
 obtain ⟨cs',lo,hi',hr⟩:=hR.obj b _ hb;obtain ⟨v',h1,h2⟩:=hr.cell i v hi;refine ⟨v',?_,h2⟩;simp only [Ga.at,World.cell?,hr.block];simpa using h1
theorem zR (hR:Rh Γ H w) {t:TypeId} {b off:Nat} {v:Value} (h:iS P H t b off=some v):
  ∃ v',(loadVar t (Γ.at b off)).run P w= .ok v' w/\VR Γ w v v':=by
 unfold iS at h;split at h
 ·rename_i ha
  split at h
  ·rename_i i hi
   split at h
   ·rename_i cs hc
    simp only [Option.some.injEq] at h;subst h;obtain ⟨cs',h1,h2,h3⟩:=hR.bq hc;refine ⟨.agg ⟨cs'⟩,?_,.agg h1⟩;have:=run_loadCells_list (P:=P) (w:=w) (Γ.at b off) cs' h3;rw [h2] at this;simp [loadVar,kR ha,aX hi,this]
   ·cases h
  ·cases h
 ·rename_i ha
  split at h
  ·rename_i cs e fz ex sh hb
   obtain ⟨v',h1,h2⟩:=NZ hR hb h;exact ⟨v',by simp [loadVar,kR ha,h1],h2⟩
  ·cases h
 ·cases h
def lay (w:World) (b:Nat) (o:Obj):World:={ w with heap:=w.heap.setIfInBounds b o }
theorem b7 {w:World} {b:Nat} {o x:Obj} (h:w.heap[b]? =some x):(lay w b o).heap[b]? =some o:=by
 have:=(Array.getElem?_eq_some_iff.1 h).1;simp [lay,this]
theorem cg {w:World} {b c:Nat} {o:Obj} (h:c≠b):(lay w b o).heap[c]? =w.heap[c]? :=by
 simp only [lay];rw [Array.getElem?_setIfInBounds_ne (Ne.symm h)]
@[simp] theorem W3 (w:World) (b:Nat) (o:Obj):(lay w b o).heap.size=w.heap.size:=by simp [lay]
theorem TH (w:World) (b:Nat) (o o':Obj):lay (lay w b o) b o'=lay w b o':=by
 simp [lay]
theorem iH {w:World} {b:Nat} {cs cs':Array Value} {e:TypeId} {f f':Nat×Nat} (h:w.heap[b]? =some (.cells cs e f)) (hs:cs'.size=cs.size):eN w (lay w b (.cells cs' e f')):=by
 intro x ds d g hx;by_cases e1:x=b
 ·subst e1
  rw [h] at hx;cases hx;exact ⟨cs',f',b7 h,hs⟩
 ·exact ⟨ds,g,(cg e1).trans hx,rfl⟩
theorem Ay {w:World} {b:Nat} {o o':Obj} (h:w.heap[b]? =some o) (hn:∀ cs e f,o≠ .cells cs e f):eN w (lay w b o'):=by
 intro x ds d g hx;by_cases e1:x=b
 ·subst e1;rw [h] at hx;cases hx;exact absurd rfl (hn ds d g)
 ·exact ⟨ds,g,(cg e1).trans hx,rfl⟩
theorem FD {w:World} {B o:Nat} {v:Value} {cs:Array Value} {e:TypeId} {f:Nat×Nat} (h:w.heap[B]? =some (.cells cs e f)):
  w.setCell ⟨B,o,none⟩ v=lay w B (.cells (cs.setIfInBounds o v) e f):=by
 obtain ⟨hlt,hb⟩:=Array.getElem?_eq_some_iff.1 h;simp only [World.setCell,lay]
 congr 1
 apply Array.ext
 ·simp
 ·intro i h1 h2
  rw [Array.getElem_modify,Array.getElem_setIfInBounds]
  ·by_cases e1:B=i
   ·subst e1;simp [hb]
   ·simp [e1]
  ·simpa using h1
theorem bf (cs:List Value) (off:Nat) (vs:List Value):(ay cs off vs).length=cs.length:=by
 induction vs generalizing cs off with
 |nil=>rfl
 |cons v vs ih=>simp [ay,ih]
theorem fb (cs:List Value) (off:Nat) (vs:List Value) (j:Nat):
  (ay cs off vs)[j]? =if off<=j/\j<off+vs.length/\j<cs.length then vs[j - off]? else cs[j]? :=by
 induction vs generalizing cs off with
 |nil=>rw [if_neg (by simp;omega)];rfl
 |cons v vs ih=>
  simp only [ay,ih,List.length_set,zad];by_cases h1:off=j
  ·subst h1
   rw [if_neg (by omega)];by_cases h2:off<cs.length
   ·rw [if_pos ⟨zai _,by omega,h2⟩];simp [h2]
   ·rw [if_neg (by omega)];simp [h2]
  ·by_cases h2:off+1<=j/\j<off+1+vs.length/\j<cs.length
   ·rw [if_pos h2,if_pos ⟨by omega,by omega,h2.2.2⟩]
    have:j - off=(j - (off+1))+1:=by omega
    rw [this];rfl
   ·rw [if_neg h2,if_neg (by omega),List.getElem?_set_ne h1]
theorem mB (B o:Nat):∀ (vs:List Value) (i:Nat) (w:World) (cs:Array Value) (e:TypeId) (lo hi:Nat),w.heap[B]? =some (.cells cs e (lo,hi))->o+i+vs.length<=cs.size->
  (∀ j,o+i<=j->j<o+i+vs.length->¬ (lo<=j/\j<hi))->(∀ v∈vs,v.oneCell'=true)->
  (storeCells ⟨B,o,none⟩ vs i).run P w= .ok () (if vs= [] then w else lay w B (.cells ⟨ay cs.toList (o+i) vs⟩ e (lo,hi))):=by
 intro vs
 induction vs with
 |nil=>intro i w cs e lo hi _ _ _ _;simp [storeCells]
 |cons v vs ih=>
  intro i w cs e lo hi hb hsz hfr hone;have hi':o+i<cs.size:=by simp at hsz;omega
  have hadd:(⟨B,o,none⟩:Addr).add i=⟨B,o+i,none⟩:=by simp only [Addr.add];split<;>simp_all
  have hcell:w.cell? ⟨B,o+i,none⟩=some cs[o+i]:=by simp [World.cell?,hb,hi']
  have hfz:w.frozen? ⟨B,o+i,none⟩=false:=by
   have:=hfr (o+i) (zai _) (by simp);simp only [World.frozen?,hb];simp only [Bool.and_eq_false_iff,decide_eq_false_iff_not];omega
  have hst:=run_store P w ⟨B,o+i,none⟩ v .plain (hone v (by simp));simp only [hcell,hfz,Bool.false_eq_true,if_false] at hst;simp only [storeCells,hadd,Sem.run_bind,hst,Result.andThen_ok];have hlay:=FD (o:=o+i) (v:=v) hb;rw [hlay]
  have h2:=ih (i+1) (lay w B (.cells (cs.setIfInBounds (o+i) v) e (lo,hi))) (cs.setIfInBounds (o+i) v) e lo hi (b7 hb) (by simp at hsz ⊢;omega)
   (fun j a b=>hfr j (by omega) (by simp;omega)) (fun x hx=>hone x (by simp [hx]))
  rw [h2];simp only [List.cons_ne_nil,if_false,ay]
  congr 1
  have hset:cs.setIfInBounds (o+i) v=⟨cs.toList.set (o+i) v⟩:=by apply Array.toList_inj.1;simp
  by_cases hv:vs= []
  ·subst hv;simp [ay,hset]
  ·rw [if_neg hv,TH]
   simp [Nat.add_assoc]
theorem vB {Γ:Ga} {w:World} {cs:List Value} {cs':Array Value} {base off:Nat} {vs vs':List Value} (hr:base+cs.length<=cs'.size)
  (hc:∀ (i:Nat) (v:Value),cs[i]? =some v->∃ v',cs'[base+i]? =some v'/\VR Γ w v v') (hv:cB Γ w vs vs'):
  ∀ (i:Nat) (v:Value),(ay cs off vs)[i]? =some v->∃ v',(ay cs'.toList (base+off) vs')[base+i]? =some v'/\VR Γ w v v':=by
 intro i v hi;have hlen:=hv.length;rw [fb] at hi;rw [fb];by_cases h:off<=i/\i<off+vs.length/\i<cs.length
 ·rw [if_pos h] at hi
  obtain ⟨v',h1,h2⟩:=hv.get hi;refine ⟨v',?_,h2⟩;rw [if_pos ⟨by omega,by omega,by simp;omega⟩];rw [←h1];congr 1;omega
 ·rw [if_neg h] at hi
  obtain ⟨v',h1,h2⟩:=hc i v hi;refine ⟨v',?_,h2⟩;have hlt:i<cs.length:=by
   rcases Nat.lt_or_ge i cs.length with x |x
   ·exact x
   ·rw [List.getElem?_eq_none x] at hi;cases hi
  rw [if_neg (by omega)];simpa using h1
theorem ml (hR:Rh Γ H w) {b off:Nat} {vs vs':List Value} {H':IH} (h:H.dF b off vs=some H') (hv:cB Γ w vs vs'):
  ∃ w',(storeCells (Γ.at b off) vs').run P w= .ok () w'/\Rh Γ H' w'/\Ext Γ H w Γ H' w':=by
 unfold IH.dF at h;split at h
 ·rename_i he
  simp only [Option.some.injEq] at h;subst h;have:vs= []:=by simpa using he
  subst this;cases hv;exact ⟨w,by simp [storeCells],hR,.refl Γ H w⟩
 ·rename_i he
  split at h
  ·rename_i cs e fz ex sh hb
   split at h
   ·rename_i hcond
    simp only [Option.some.injEq] at h;subst h;simp only [zae,decide_eq_true_eq,List.all_eq_true] at hcond;obtain ⟨⟨⟨hro,hfz⟩,hle⟩,hone⟩:=hcond;obtain ⟨cs',lo,hi,hr⟩:=hR.obj b _ hb;have hlen:=hv.length;have hne:vs'≠ []:=by
     rintro rfl;simp at hlen;simp [hlen] at he
    have hrun:=mB (P:=P) (Γ.φ b).1 ((Γ.φ b).2+off) vs' 0 w cs' e lo hi hr.block (by have:=hr.room;omega)
     (fun j h1 h2 ⟨h3,h4⟩=>by
      rcases (hr.frozen hro).2 j h3 h4 with x |⟨_,x⟩
      ·omega
      ·have:=hr.room;omega)
     (fun v' hv'=>by
      obtain ⟨k,hk,rfl⟩:=List.mem_iff_getElem.1 hv';have hk':k<vs.length:=by omega
      obtain ⟨x,h1,h2⟩:=hv.get (zaj hk');rw [zaj hk] at h1;cases h1;exact h2.one (hone _ (List.getElem_mem _)))
    rw [if_neg hne] at hrun;have hs:=iH (cs':=⟨ay cs'.toList ((Γ.φ b).2+off+0) vs'⟩) (f':=(lo,hi)) hr.block (by simp [bf]);refine ⟨_,hrun,?_⟩;refine hR.hX _ hb hro (by simp) rfl rfl rfl hs (fun x hx=>cg hx) ?_;refine ⟨⟨ay cs'.toList ((Γ.φ b).2+off+0) vs'⟩,lo,hi,b7 hr.block,?_,?_,?_,?_,hr.LW⟩
    ·have:=hr.room;simp [bf];omega
    ·intro i v hi
     obtain ⟨v',h1,h2⟩:=vB hr.room hr.cell hv i v hi;exact ⟨v',by simpa using h1,h2.mono (.refl Γ) hs⟩
    ·intro hx;have:=hr.lL hx;simp [bf,this]
    ·intro h0
     refine ⟨(hr.frozen h0).1,fun j h1 h2=>?_⟩;have:=(hr.frozen h0).2 j h1 h2;simpa [bf] using this
   ·cases h
  ·cases h
theorem Nb (hR:Rh Γ H w) {t:TypeId} {b off:Nat} {v v':Value} {H':IH} (h:gH P H t b off v=some H') (hv:VR Γ w v v'):
  ∃ w',(storeVar t (Γ.at b off) v').run P w= .ok () w'/\Rh Γ H' w'/\Ext Γ H w Γ H' w':=by
 unfold gH at h;split at h
 ·rename_i i hi
  split at h
  ·rename_i hsz
   have hne:v≠Iv.aS:=by
    rintro rfl;unfold IH.dF at h;simp only [Iv.aS,Value.cells,List.isEmpty_cons,Bool.false_eq_true,if_false,List.all_cons,one,Bool.false_and,Bool.and_false] at h;split at h<;>simp at h
   have hc:=hv.cells hne;obtain ⟨w',h1,h2,h3⟩:=ml (P:=P) hR h hc;refine ⟨w',?_,h2,h3⟩;have hsz':v'.cells.size=i.size:=by rw [←hsz];have:=hc.length;simpa using this.symm
   simp [storeVar,aX hi,hsz',h1]
  ·cases h
 ·cases h
theorem ij (hR:Rh Γ H w) (e:TypeId) {cs:List Value} {cs':Array Value} (h:cB Γ w cs cs'.toList):
  Rh (Γ.next H.n (w.heap.size,0)) (bI H e cs) (w.alloc (.cells cs' e))/\Ext Γ H w (Γ.next H.n (w.heap.size,0)) (bI H e cs) (w.alloc (.cells cs' e)):=by
 have hn:¬ Γ.bj H.n:=fun x=>by have:=hR.bj _ x;omega
 refine hR.new _ _ ⟨cs',0,0,?_,?_,?_,?_,?_,fun x=>(by cases x)⟩
 ·rw [Ga.bp];exact heap_alloc_new
 ·rw [Ga.bp];have:=h.length;simp at this;simp;omega
 ·intro i v hv
  obtain ⟨v',h1,h2⟩:=h.get hv;exact ⟨v',by rw [Ga.bp];simpa using h1,h2.mono (Ga.le_next hn) (.alloc w _)⟩
 ·intro _;rw [Ga.bp];have:=h.length;simp at this;simp [this]
 ·exact fun _=>⟨zai _,fun j h1 h2=>by omega⟩
theorem VR.Df (n B:Nat):VR (Γ.next n (B,0)) w (ptrTo n) (.pointer (some ⟨B,0,none⟩)):=by
 have:=VR.ptr (Γ:=Γ.next n (B,0)) (w:=w) (b:=n) (o:=0) (.inr rfl);simpa [Ga.at,Ga.bp,ptrTo] using this
end Go.Iv
/- The operations, one by one (the first part). -/
namespace Go.Iv
open Go
variable {P:Program} {Γ:Ga} {H:IH} {w:World}
section inv
variable {v':Value}
theorem VR.By {b:Bool} (h:VR Γ w (.bool b) v'):v'= .bool b:=by cases h;rfl
theorem VR.ff {k:IntKind} {n:Int} (h:VR Γ w (.int k n) v'):v'= .int k n:=by cases h;rfl
theorem VR.cK {s:ByteArray} (h:VR Γ w (.string s) v'):v'= .string s:=by cases h;rfl
theorem VR.AP (h:VR Γ w (.pointer none) v'):v'= .pointer none:=by cases h;rfl
theorem VR.oy {a:Addr} (h:VR Γ w (.pointer (some a)) v'):∃ b o,a=⟨b,o,none⟩/\Γ.bj b/\v'= .pointer (some (Γ.at b o)):=by
 cases h with |ptr h=>exact ⟨_,_,rfl,h,rfl⟩
theorem VR.Eu (h:VR Γ w (.map none) v'):v'= .map none:=by cases h;rfl
theorem VR.Ry {r:Nat} (h:VR Γ w (.map (some r)) v'):Γ.bj r/\v'= .map (some (Γ.φ r).1):=by cases h with |map h=>exact ⟨h,rfl⟩
theorem VR.Xt {a:Array Value} (h:VR Γ w (.agg a) v'):∃ a',v'= .agg a'/\cB Γ w a.toList a'.toList:=by cases h with |agg h=>exact ⟨_,rfl,h⟩
theorem VR.VT {a:Array Value} (h:VR Γ w (.tuple a) v'):∃ a',v'= .tuple a'/\cB Γ w a.toList a'.toList:=by cases h with |tuple h=>exact ⟨_,rfl,h⟩
theorem VR.CD {t:TypeId} {x:Value} (h:VR Γ w (.iface t x) v'):∃ x',v'= .iface t x'/\VR Γ w x x':=by cases h with |iface t h=>exact ⟨_,rfl,h⟩
theorem VR.Ar (h:VR Γ w .nilIface v'):v'= .nilIface:=by cases h;rfl
theorem VR.oV (h:VR Γ w .nilFunc v'):v'= .nilFunc:=by cases h;rfl
theorem VR.KD {fn:Fn} {a c:Array Value} (h:VR Γ w (.func fn a c) v') (hf:eU fn=true):∃ a' c',v'= .func fn a' c'/\cB Γ w a.toList a'.toList/\cB Γ w c.toList c'.toList:=by
 cases h with
 |func _ ha hc=>exact ⟨_,_,rfl,ha,hc⟩
 |yield=>simp [eU] at hf
theorem VR.O1 {l:Nat} {a c:Array Value} (h:VR Γ w (.func (.yield l) a c) v'):a=#[]/\c=#[]/\Γ.bj l/\v'= .func (.yield (Γ.φ l).1) #[] #[]:=by
 cases h with
 |func hf=>simp [eU] at hf
 |yield h=>exact ⟨rfl,rfl,h,rfl⟩
theorem VR.jm {l c:Nat} (h:VR Γ w (.slice none l c) v'):l=0/\c=0/\v'= .slice none 0 0:=by cases h;exact ⟨rfl,rfl,rfl⟩
theorem VR.ej {a:Addr} {l c:Nat} (h:VR Γ w (.slice (some a) l c) v'):∃ b o,a=⟨b,o,none⟩/\Γ.bj b/\
  (
   (c<eE/\l<=c/\∃ a',v'= .slice (some a') l c/\((c=0/\a'.block=(Γ.φ b).1)∨a'=Γ.at b o))∨
   ∃ s c' a',c=eE+s/\v'= .slice (some a') l c'/\l<=c'/\((c'=0/\l=0/\a'.block=(Γ.φ b).1)∨(a'=Γ.at b o/\Room w a' (c'*s)))):=by
 cases h with
 |slice h hc hl ha=>exact ⟨_,_,rfl,h,.inl ⟨hc,hl,_,rfl,ha⟩⟩
 |dV h hl hr=>exact ⟨_,_,rfl,h,.inr ⟨_,_,_,rfl,rfl,hl,hr⟩⟩
theorem VR.fR {v v':Value} (h:VR Γ w v v') (ok t:Bool):VR Γ w (Iv.fR ok v t) (if ok then .tuple #[v',.bool t] else v'):=by
 unfold Iv.fR;cases ok
 ·exact h
 ·exact .tuple (.cons h (.cons (.bool t) .nil))
end inv
theorem gV (b o n:Nat):(Γ.at b o).add n=Γ.at b (o+n):=by
 simp only [Ga.at,Addr.add];split
 ·simp_all
 ·simp
abbrev bz (s:Sem Value):Sem Next:=do pure (.value (←s))
theorem ai {s:Sem Value} {v:Value} {w w':World} (h:s.run P w= .ok v w'):(bz s).run P w= .ok (.value v) w':=by simp [h]
theorem Hg (hR:Rh Γ H w) {c a b c' a' b':Value} {res:ag} (h:lS H c a b=some res) (hc:VR Γ w c c') (ha:VR Γ w a a') (hb:VR Γ w b b'):
  Good Γ H w ((do pure (.value (if ←asBool c' then a' else b')):Sem Next).run P w) res:=by
 unfold lS at h;split at h
 ·rename_i t
  cases h;rw [hc.By];cases t
  ·exact aj hR hb (by simp [asBool])
  ·exact aj hR ha (by simp [asBool])
 ·cases h
theorem BO (hR:Rh Γ H w) {e:TypeId} {res:ag} (h:fC P H e=some res):Good Γ H w ((bz (Instr.alloc e true (.tuple #[]))).run P w) res:=by
 unfold fC at h;split at h
 ·rename_i z hz
  cases h;have hzr:cB Γ w z.cells.toList z.cells.toList:=(VR.jk (dN hz)).cells (by rintro rfl;have:=dN hz;simp [Iv.aS,free,aV] at this);obtain ⟨h1,h2⟩:=ij hR e hzr;exact ⟨_,_,_,ai (by simp [Instr.alloc,dd hz,newVar,newRow]),.Df _ _,h1,h2⟩
 ·cases h
theorem UY {v:Value} (h:Oi v=true):v≠Iv.aS:=by rintro rfl;simp [Oi,Iv.aS] at h
theorem HS (hR:Rh Γ H w) {e:TypeId} {v v':Value} {res:ag} (h:nD H e v=some res) (hv:VR Γ w v v'):Good Γ H w ((bz (Instr.box e v')).run P w) res:=by
 unfold nD at h;split at h
 ·rename_i hok
  cases h;obtain ⟨h1,h2⟩:=ij hR e (hv.cells (UY hok));exact ⟨_,_,_,ai (by simp [Instr.box,newVar,newRow]),.Df _ _,h1,h2⟩
 ·cases h
inductive SK (Γ:Ga) (w:World):List (Nat×Value)->List (Nat×Value)->Prop
 |nil:SK Γ w [] []
 |cons {i:Nat} {v v':Value} {l l':List (Nat×Value)} (h:VR Γ w v v') (t:SK Γ w l l'):SK Γ w ((i,v)::l) ((i,v')::l')
theorem gE (off:Nat) (vs:List Value) (i:Nat) (cells:Array Value):
  ((vs.zipIdx i).foldl (fun (cs:Array Value) (x:Value×Nat)=>cs.setIfInBounds (off+x.2) x.1) cells).toList=ay cells.toList (off+i) vs:=by
 induction vs generalizing i cells with
 |nil=>rfl
 |cons v vs ih=>
  simp only [List.zipIdx_cons,List.foldl_cons,ih,ay];simp [Nat.add_assoc]
theorem xx {place:Nat->Option (Nat×Nat)} {ps ps':List (Nat×Value)} (hp:SK Γ w ps ps') (hok:ps.all (fun p=>Oi p.2)=true):
  ∀ {cells cells':Array Value} {r:Array Value},cB Γ w cells.toList cells'.toList->Instr.fill place cells ps=some r->
   ∃ r',Instr.fill place cells' ps'=some r'/\cB Γ w r.toList r'.toList:=by
 induction hp with
 |nil=>intro cells cells' r hc h;simp only [Instr.fill,Option.some.injEq] at h;subst h;exact ⟨_,rfl,hc⟩
 |@cons i v v' l l' hv t ih=>
  intro cells cells' r hc h;simp only [List.all_cons,zae] at hok;have hvc:=hv.cells (UY hok.1);have hlen:=hvc.length;have hlc:=hc.length;simp only [Instr.fill] at h ⊢;split at h
  ·cases h
  ·rename_i off size hpl
   have e1:v'.cells.size=v.cells.size:=by simpa using hlen.symm
   have e2:cells'.size=cells.size:=by simpa using hlc.symm
   simp only [e1,e2];split at h
   ·cases h
   ·rename_i hcond
    rw [if_neg hcond];refine ih hok.2 ?_ h;have h1:=gE off v.cells.toList 0 cells;have h2:=gE off v'.cells.toList 0 cells';rw [←Array.foldl_toList,←Array.foldl_toList];simp only [Array.toList_zipIdx];rw [h1,h2];have key:=vB (Γ:=Γ) (w:=w) (cs:=cells.toList) (cs':=cells') (base:=0) (off:=off+0) (by simp;omega) (fun j x hj=>by
     obtain ⟨x',a,b⟩:=hc.get hj;exact ⟨x',by simpa using a,b⟩) hvc
    refine .PU (by simp [bf,e2]) fun j x hj=>?_
    obtain ⟨x',a,b⟩:=key j x hj;exact ⟨x',by simpa using a,b⟩
theorem run_places (fs:List Field) {r:List (Nat×Nat)} (h:placesOf P fs=some r):
  (fs.mapM fun (f:Field)=>(do pure (f.offset,←sizeOf f.type):Sem (Nat×Nat))).run P w= .ok r w:=by
 induction fs generalizing r with
 |nil=>simp only [placesOf,Option.some.injEq] at h;subst h;rfl
 |cons f fs ih=>
  simp only [placesOf] at h;split at h
  ·rename_i i r' hi hr
   simp only [Option.some.injEq] at h;subst h;simp only [List.mapM_cons,Sem.run_bind,aX hi,Result.andThen_ok,Sem.run_pure,ih hr]
  ·cases h
theorem CW (hR:Rh Γ H w) {t:TypeId} {ps:List (Nat×Value)} {ps':Array (Nat×Value)} {res:ag} (h:hZ P H t ps=some res) (hp:SK Γ w ps ps'.toList):
  Good Γ H w ((bz (Instr.build t ps')).run P w) res:=by
 unfold hZ at h;split at h
 ·rename_i hok
  split at h
  ·rename_i z hz
   have hzr:cB Γ w z.cells.toList z.cells.toList:=(VR.jk (dN hz)).cells (by rintro rfl;have:=dN hz;simp [Iv.aS,free,aV] at this);split at h
   ·rename_i fs hu
    split at h
    ·rename_i places hpl
     split at h
     ·rename_i cells hfill
      cases h;obtain ⟨r',h1,h2⟩:=xx hp hok hzr hfill;refine aj hR (.agg h2) (ai ?_);have hm:(fs.mapM fun (f:Field)=>(do pure (f.offset,←sizeOf f.type):Sem (Nat×Nat))).run P w= .ok places.toArray w:=by
       rw [Array.mapM_eq_mapM_toList,Sem.run_map,run_places fs.toList hpl];rfl
      simp only [Instr.build,Sem.run_bind,dd hz,Result.andThen_ok,run_underlying hu,hm];simp [h1]
     ·cases h
    ·cases h
   ·rename_i n e hu
    split at h
    ·rename_i i hi
     split at h
     ·rename_i cells hfill
      cases h;obtain ⟨r',h1,h2⟩:=xx hp hok hzr hfill;refine aj hR (.agg h2) (ai ?_);simp only [Instr.build,Sem.run_bind,dd hz,Result.andThen_ok,run_underlying hu,aX hi];simp [h1]
     ·cases h
    ·cases h
   ·cases h
  ·cases h
 ·cases h
theorem CB (z:Array Value) (n:Nat):((Array.range (n*z.size)).map (fun i=>z[i%z.size]!)).toList=dx z.toList n:=by
 induction n with
 |zero=>simp [dx]
 |succ n ih=>
  have h1:(dx z.toList (n+1))=z.toList++dx z.toList n:=rfl;rw [h1,←ih];apply List.ext_getElem?;intro i;simp only [Array.toList_map,Array.toList_range,List.getElem?_map];by_cases hz:z.size=0
  ·simp [hz]
  by_cases hi:i<(n+1)*z.size
  ·rw [List.getElem?_range hi]
   by_cases h2:i<z.size
   ·rw [List.getElem?_append_left (by simpa using h2)]
    simp [Nat.mod_eq_of_lt h2,h2]
   ·rw [List.getElem?_append_right (by simp;omega)]
    simp only [Array.length_toList,List.getElem?_map];have h3:i - z.size<n*z.size:=by rw [Nat.succ_mul] at hi;omega
    rw [List.getElem?_range h3];simp only [Option.map_some];have:(i - z.size)%z.size=i%z.size:=(Nat.mod_eq_sub_mod (by omega)).symm;rw [this]
  ·rw [List.getElem?_eq_none (by simpa using hi)]
   rw [List.getElem?_append_right (by simp;rw [Nat.succ_mul] at hi;omega)];simp only [Array.length_toList,List.getElem?_map,Option.map_none];rw [List.getElem?_eq_none (by simp;rw [Nat.succ_mul] at hi;omega)];rfl
end Go.Iv
/- The operations, one by one (the second part). -/
namespace Go.Iv
open Go
variable {P:Program} {Γ:Ga} {H:IH} {w:World}
theorem cB.dx {z z':List Value} (h:cB Γ w z z') (n:Nat):cB Γ w (Iv.dx z n) (Iv.dx z' n):=by
 induction n with
 |zero=>exact .nil
 |succ n ih=>exact h.append ih
theorem wS {t:TypeId} {z:Value} (hz:zeroOf P t=some z):cB Γ w z.cells.toList z.cells.toList:=
 (VR.jk (dN hz)).cells (by rintro rfl;have:=dN hz;simp [Iv.aS,free,aV] at this)
theorem pI (hR:Rh Γ H w) {t:TypeId} {len:Nat} {ps:List (Nat×Value)} {ps':Array (Nat×Value)} {res:ag} (h:aW P H t len ps=some res) (hp:SK Γ w ps ps'.toList):
  Good Γ H w ((bz (Instr.buildSlice t len ps')).run P w) res:=by
 unfold aW at h;split at h
 ·rename_i e i he
  obtain ⟨hu,hi⟩:=eP he;split at h
  ·rename_i hcond
   simp only [zae,decide_eq_true_eq] at hcond;obtain ⟨hbig',hok⟩:=hcond;have hbig:len*i.size+len<=2^24:=by rw [←Nat.mul_succ];exact hbig'
   split at h
   ·rename_i z hz
    split at h
    ·rename_i hsz
     split at h
     ·rename_i cells hfill
      cases h;have hzr:=wS (Γ:=Γ) (w:=w) hz;have harr:((Array.range (len*i.size)).map (fun j=>z.cells[j%z.cells.size]!))=⟨Iv.dx z.cells.toList len⟩:=by
       apply Array.toList_inj.1;rw [←hsz,CB]
      obtain ⟨r',h1,h2⟩:=xx hp hok (hzr.dx len) hfill;obtain ⟨h3,h4⟩:=ij hR e h2;have hn:(Γ.next H.n (w.heap.size,0)).bj H.n:= .inr rfl;refine ⟨_,_,_,ai (v:= .slice (some ⟨w.heap.size,0,none⟩) len len) (w':=w.alloc (.cells r' e)) ?_,?_,h3,h4⟩
      ·simp only [Instr.buildSlice,Sem.run_bind,run_underlying hu,Result.andThen_ok,aX hi]
       rw [if_neg (by omega)];by_cases h0:len*i.size=0
       ·have hnil:Iv.dx z.cells.toList len= []:=by
         rw [←CB,hsz,h0];simp
        have hfill':Instr.fill (fun j=>some (j*i.size,i.size)) #[] ps'.toList=some r':=by
         rw [←h1,hnil]
        simp [h0,Array.range_zero',hfill',newRow]
       ·simp only [h0,if_false,Sem.run_bind,dd hz,Result.andThen_ok,Sem.run_pure]
        rw [harr];simp [h1,newRow]
      ·have:=VR.slice (Γ:=Γ.next H.n (w.heap.size,0)) (w:=w.alloc (.cells r' e)) (o:=0) (l:=len) (c:=len) hn (by unfold eE;omega) (zai _) (.inr rfl)
       simpa [Ga.at,Ga.bp] using this
     ·cases h
    ·cases h
   ·cases h
  ·cases h
 ·cases h
theorem Fg (hR:Rh Γ H w) {t:TypeId} {a a':Value} {res:ag} (h:dy P H t a=some res) (ha:VR Γ w a a'):Good Γ H w ((bz (Instr.loadAt t a')).run P w) res:=by
 unfold dy at h;split at h
 ·rename_i b off
  split at h
  ·rename_i v hv
   cases h;obtain ⟨b',o',e,hd,rfl⟩:=ha.oy;cases e;obtain ⟨v',h1,h2⟩:=zR hR hv;exact aj hR h2 (ai (by simp [Instr.loadAt,Instr.sureAddr,h1]))
  ·cases h
 ·cases h
theorem CI (hR:Rh Γ H w) {t:TypeId} {a a' v v':Value} {res:ag} (h:bW P H t a v=some res) (ha:VR Γ w a a') (hv:VR Γ w v v'):
  Good Γ H w ((do Instr.storeAt t a' v';pure .skip:Sem Next).run P w) res:=by
 unfold bW at h;split at h
 ·rename_i b off
  split at h
  ·rename_i H' hst
   cases h;obtain ⟨b',o',e,hd,rfl⟩:=ha.oy;cases e;obtain ⟨w',h1,h2,h3⟩:=Nb hR hst hv;exact ⟨w',Γ,by simp [Instr.storeAt,Instr.sureAddr,h1],h2,h3⟩
  ·cases h
 ·cases h
theorem sv (hR:Rh Γ H w) {t:TypeId} {v v':Value} {res:ag} (h:dM P H t v=some res) (hv:VR Γ w v v'):Good Γ H w ((bz (Instr.makeInterface t v')).run P w) res:=by
 unfold dM at h;split at h
 ·cases h
 ·rename_i d hn hu
  cases h;refine aj hR (.iface t hv) (ai ?_);simp only [Instr.makeInterface,Sem.run_bind,run_underlying hu,Result.andThen_ok];cases d<;>simp_all
 ·cases h
theorem cB.eT {Z Z':Operand->Value} (hv:∀ x,VR Γ w (Z x) (Z' x)) (l:List Operand):cB Γ w (l.map Z) (l.map Z'):=by
 induction l with
 |nil=>exact .nil
 |cons x l ih=>exact .cons (hv x) ih
theorem SK.eT {Z Z':Operand->Value} (hv:∀ x,VR Γ w (Z x) (Z' x)) (l:List (Nat×Operand)):
  SK Γ w (l.map fun p=>(p.1,Z p.2)) (l.map fun p=>(p.1,Z' p.2)):=by
 induction l with
 |nil=>exact .nil
 |cons x l ih=>exact .cons (hv x.2) ih
theorem CC (hR:Rh Γ H w) (o:bA) (o':Obj) (ho:gz (Γ.next H.n (w.heap.size,0)) (w.alloc o') H.n o) (v v':Value) {s:Sem Value}
  (hv:VR (Γ.next H.n (w.heap.size,0)) (w.alloc o') v v') (hs:s.run P w= .ok v' (w.alloc o')):Good Γ H w ((bz s).run P w) (.val v (H.new o)):=by
 obtain ⟨h1,h2⟩:=hR.new o o' ho;exact ⟨_,_,_,ai hs,hv,h1,h2⟩
theorem vv (hR:Rh Γ H w) {t:TypeId} {r r':Option Value} {res:ag} (h:cj P H t r=some res) (hr:∀ v,r=some v->∃ v',r'=some v'/\VR Γ w v v') (hn:r=none->r'=none):
  Good Γ H w ((bz (Instr.makeMap t r')).run P w) res:=by
 have hobj:gz (Γ.next H.n (w.heap.size,0)) (w.alloc (.map #[] 0)) H.n (.map [] 0):=⟨#[],by rw [Ga.bp];exact heap_alloc_new,.nil⟩;have hval:VR (Γ.next H.n (w.heap.size,0)) (w.alloc (.map #[] 0)) (.map (some H.n)) (.map (some w.heap.size)):=by
  have:=VR.map (Γ:=Γ.next H.n (w.heap.size,0)) (w:=w.alloc (.map #[] 0)) (r:=H.n) (.inr rfl);simpa using this
 unfold cj at h;split at h
 ·cases h
  rw [hn rfl];exact CC hR _ _ hobj _ _ hval (by simp [Instr.makeMap])
 ·rename_i hint
  split at h
  ·rename_i k' n hu
   cases h;obtain ⟨v',rfl,hv⟩:=hr _ rfl;rw [hv.ff];exact CC hR _ _ hobj _ _ hval (by simp [Instr.makeMap,run_underlying hu,asInt,asIntOf])
  ·cases h
theorem rF (hR:Rh Γ H w) {s:TypeId} {x x':Value} {f:Nat} {res:ag} (h:cD P H s x f=some res) (hx:VR Γ w x x'):Good Γ H w ((bz (Instr.fieldAt s x' f)).run P w) res:=by
 unfold cD at h;split at h
 ·rename_i fs b off hu
  split at h
  ·rename_i fd hf
   split at h
   ·rename_i i hi
    split at h
    ·cases h
    ·rename_i h0
     cases h;obtain ⟨b',o',e,hd,rfl⟩:=hx.oy;cases e;refine aj hR (.ptr (o:=off+fd.offset) hd) (ai ?_);simp only [Instr.fieldAt,Sem.run_bind,run_underlying hu,Result.andThen_ok,hf];simp [Instr.sureAddr,fieldPlace,aX hi,h0,gV]
   ·cases h
  ·cases h
 ·cases h
theorem xP {t:TypeId} {cs:List Value} {cs':Array Value} {off:Nat} {v:Value} (h:partOf P t cs off=some v) (hc:cB Γ w cs cs'.toList):
  ∃ v',(part t cs' off).run P w= .ok v' w/\VR Γ w v v':=by
 unfold partOf at h;split at h
 ·rename_i ha
  split at h
  ·rename_i i hi
   cases h;refine ⟨.agg (cs'.extract off (off+i.size)),by simp [part,kR ha,aX hi],.agg ?_⟩;have:=(hc.drop off).take i.size;simpa [List.extract_eq_drop_take'] using this
  ·cases h
 ·rename_i ha
  obtain ⟨v',h1,h2⟩:=hc.get h;have h1':cs'[off]? =some v':=by simpa using h1
  exact ⟨v',by simp [part,kR ha,h1'],h2⟩
 ·cases h
theorem BW (hR:Rh Γ H w) {t:TypeId} {x x':Value} {f:Nat} {res:ag} (h:je P H t x f=some res) (hx:VR Γ w x x'):Good Γ H w ((bz (Instr.field t x' f)).run P w) res:=by
 unfold je at h;split at h
 ·rename_i fs cs hu
  split at h
  ·rename_i fd hf
   unfold valOf at h;split at h
   ·rename_i v hv
    cases h;obtain ⟨cs',rfl,hc⟩:=hx.Xt;obtain ⟨v',h1,h2⟩:=xP hv hc;refine aj hR h2 (ai ?_);simp only [Instr.field,Sem.run_bind,run_underlying hu,Result.andThen_ok,hf];simp [asAgg,h1]
   ·cases h
  ·cases h
 ·cases h
theorem sI (hR:Rh Γ H w) {t:TypeId} {x x' ix ix':Value} {res:ag} (h:br P H t x ix=some res) (hx:VR Γ w x x') (hi:VR Γ w ix ix'):
  Good Γ H w ((bz (Instr.indexAt t x' ix')).run P w) res:=by
 unfold br at h;split at h
 ·rename_i n e b off k i hu
  split at h
  ·rename_i inf hinf
   split at h
   ·rename_i hc
    cases h;simp only [zae,decide_eq_true_eq] at hc;obtain ⟨b',o',e',hd,rfl⟩:=hx.oy;cases e';rw [hi.ff];refine aj hR (.ptr (o:=off+i.toNat*inf.size) hd) (ai ?_);simp only [Instr.indexAt,Sem.run_bind,run_underlying hu,Result.andThen_ok,asIntOf,Sem.run_pure,Instr.sureAddr];simp [hc.1,hc.2,aX hinf,gV]
   ·cases h
  ·cases h
 ·rename_i e b off len cap k i hu
  split at h
  ·rename_i inf hinf
   split at h
   ·rename_i hc
    cases h;simp only [zae,decide_eq_true_eq] at hc;rw [hi.ff];obtain ⟨b',o',e',hd,hs⟩:=hx.ej;cases e';rcases hs with ⟨hcap,hl,a',rfl,ha⟩ |⟨s,c',a',hcap,rfl,hl,hs⟩
    ·obtain rfl:a'=Γ.at b off:=ha.resolve_left (fun x=>by omega)
     refine aj hR (.ptr (o:=off+i.toNat*inf.size) hd) (ai ?_);simp only [Instr.indexAt,Sem.run_bind,run_underlying hu,Result.andThen_ok,asIntOf,Sem.run_pure];simp [hc.1,hc.2,aX hinf,gV]
    ·rcases hs with ⟨h0,h0',_⟩ |⟨rfl,_⟩
     ·omega
     ·refine aj hR (.ptr (o:=off+i.toNat*inf.size) hd) (ai ?_)
      simp only [Instr.indexAt,Sem.run_bind,run_underlying hu,Result.andThen_ok,asIntOf,Sem.run_pure];simp [hc.1,hc.2,aX hinf,gV]
   ·cases h
  ·cases h
 ·cases h
theorem WK (s:ByteArray) (i:Nat):s[i]? =(bl s)[i]? :=by
 by_cases h:i<s.size
 ·rw [ByteArray.getElem?_lt' s i h]
  have h':i<s.data.size:=h;simp only [bl,Array.getElem?_toList,Array.getElem?_eq_getElem h'];rfl
 ·rw [ByteArray.getElem?_ge' s i h]
  have h':¬ i<s.data.size:=h;simp only [bl,Array.getElem?_toList];rw [Array.getElem?_eq_none (by omega)]
theorem B2 (hR:Rh Γ H w) {t:TypeId} {x x' ix ix':Value} {res:ag} (h:ig P H t x ix=some res) (hx:VR Γ w x x') (hi:VR Γ w ix ix'):
  Good Γ H w ((bz (Instr.index t x' ix')).run P w) res:=by
 unfold ig at h;split at h
 ·rename_i s k i hu
  split at h
  ·rename_i h0
   split at h
   ·rename_i c hc
    cases h;rw [hi.ff,hx.cK];refine aj hR (.int _ _) (ai ?_);simp only [Instr.index,Sem.run_bind,run_underlying hu,Result.andThen_ok,asIntOf,Sem.run_pure];simp [h0,WK,hc]
   ·cases h
  ·cases h
 ·rename_i n e cs k i hu
  split at h
  ·rename_i hc
   simp only [zae,decide_eq_true_eq] at hc;split at h
   ·rename_i inf hinf
    unfold valOf at h;split at h
    ·rename_i v hv
     cases h;obtain ⟨cs',rfl,hcs⟩:=hx.Xt;obtain ⟨v',h1,h2⟩:=xP hv hcs;rw [hi.ff];refine aj hR h2 (ai ?_);simp only [Instr.index,Sem.run_bind,run_underlying hu,Result.andThen_ok,asIntOf,Sem.run_pure];simp [hc.1,hc.2,aX hinf,h1]
    ·cases h
   ·cases h
  ·cases h
 ·cases h
theorem C7 (hR:Rh Γ H w) {t:TypeId} {x x':Value} {res:ag} (h:mM P H t x=some res) (hx:VR Γ w x x'):Good Γ H w ((bz (Instr.range t x')).run P w) res:=by
 unfold mM at h;split at h
 ·rename_i s hu
  cases h;rw [hx.cK];refine CC hR _ (.stringIter s 0) ?_ _ _ (VR.Df _ _) ?_
  ·unfold gz;rw [Ga.bp];exact ⟨heap_alloc_new,rfl⟩
  ·simp only [Instr.range,Sem.run_bind,run_underlying hu,Result.andThen_ok,Sem.run_pure];simp
 ·cases h
theorem D7 (hR:Rh Γ H w) {x x':Value} {ty:TypeId} {res:ag} (h:lU H x=some res) (hx:VR Γ w x x'):Good Γ H w ((bz (Instr.next x' true ty)).run P w) res:=by
 unfold lU at h;split at h
 ·rename_i r
  split at h
  ·rename_i s pos hb
   split at h
   ·cases h
   ·rename_i hro
    obtain ⟨b',o',e',hd,rfl⟩:=hx.oy;cases e';have ho:=hR.obj r _ hb;have ho':w.heap[(Γ.φ r).1]? =some (.stringIter s pos):=ho.1;have hbase:(Γ.φ r).2=0:=ho.2;split at h
    ·rename_i hp
     cases h;have hs:eN w (lay w (Γ.φ r).1 (.stringIter s (pos+(Utf8.decode s pos).2))):=Ay ho' (by simp)
     obtain ⟨h1,h2⟩:=hR.hX (w':=lay w (Γ.φ r).1 (.stringIter s (pos+(Utf8.decode s pos).2))) (.eW s (pos+(Utf8.decode s pos).2)) hb (by omega) (by simp) rfl rfl rfl hs
      (fun x hx=>cg hx) ⟨b7 ho',hbase⟩
     refine ⟨_,_,_,ai (v:= .tuple #[.bool true,.int .i64 pos,.int .i32 (Utf8.decode s pos).1]) ?_,.tuple (.cons (.bool true) (.cons (.int _ _) (.cons (.int _ _) .nil))),h1,h2⟩;simp [Instr.next,Ga.at,hbase,ho',hp,getObj,setObj,Sem.run,goInt,lay]
    ·rename_i hp
     cases h;refine aj hR (.tuple (.cons (.bool false) .nil)) (ai ?_);simp [Instr.next,Ga.at,hbase,ho',hp,getObj,Sem.run]
  ·cases h
 ·cases h
theorem pG (hR:Rh Γ H w) {x x':Value} {xt asserted:TypeId} {ok:Bool} {res:ag} (h:dm P H x asserted ok=some res) (hx:VR Γ w x x'):
  Good Γ H w ((bz (Instr.typeAssert x' xt asserted ok)).run P w) res:=by
 unfold dm at h;split at h
 ·cases h
 ·rename_i d t v hn hu
  split at h
  ·rename_i ht
   cases h;obtain ⟨v',rfl,hv⟩:=hx.CD;refine aj hR (hv.fR ok true) (ai ?_);simp only [Instr.typeAssert,Sem.run_bind,run_underlying hu,Result.andThen_ok];cases d<;>simp_all
  ·cases h
 ·cases h
theorem yc (hR:Rh Γ H w) {x x':Value} {i:Nat} {res:ag} (h:fp H x i=some res) (hx:VR Γ w x x'):Good Γ H w ((bz (Instr.extract x' i)).run P w) res:=by
 unfold fp at h;split at h
 ·rename_i vs
  unfold valOf at h;split at h
  ·rename_i v hv
   cases h;obtain ⟨vs',rfl,hvs⟩:=hx.VT;obtain ⟨v',h1,h2⟩:=hvs.get hv;have h1':vs'[i]? =some v':=by simpa using h1
   exact aj hR h2 (ai (by simp [Instr.extract,h1']))
  ·cases h
 ·cases h
theorem sb (hR:Rh Γ H w) {t:TypeId} {l l' c c':Value} {res:ag} (h:bg P H t l c=some res) (hl:VR Γ w l l') (hc:VR Γ w c c'):
  Good Γ H w ((bz (Instr.makeSlice t l' c')).run P w) res:=by
 unfold bg at h;split at h
 ·rename_i e i ln cn he
  obtain ⟨hu,hi⟩:=eP he;split at h
  ·rename_i hcond
   simp only [zae,decide_eq_true_eq] at hcond;obtain ⟨⟨h0,h1⟩,h2⟩:=hcond;split at h
   ·rename_i z hz
    split at h
    ·rename_i hsz
     cases h;rw [hl.ff,hc.ff];have hzi:i.zero=some z:=by
      have:=hz;unfold zeroOf at this;simp only [hi] at this;split at this
      ·rename_i z' hz'
       split at this
       ·cases this;exact hz'
       ·cases this
      ·cases this
     have hb0:0<=cn*(i.bytes:Int):=Int.mul_nonneg (by omega) (by omega);have hbb:cn*(i.bytes:Int)+cn<=1099511627776:=by
      have e1:cn*((i.bytes:Int)+1)=cn*(i.bytes:Int)+cn:=by rw [Int.mul_add,Int.mul_one]
      have e2:((roomy:Nat):Int)=1099511627776:=by decide
      rw [←e1,←e2];exact h2
     have hrun:=run_make (P:=P) w t e i z hu hi hzi .i64 .i64 ln cn h0 h1 (by rw [Int.mul_comm];omega) (by omega);have hcells:madeCells z.cells (cn.toNat*i.size)=⟨Iv.dx z.cells.toList cn.toNat⟩:=by
      apply Array.toList_inj.1;unfold madeCells;rw [←hsz,CB]
     have hzr:=(wS (Γ:=Γ) (w:=w) hz).dx cn.toNat;obtain ⟨h3,h4⟩:=ij (cs':=⟨Iv.dx z.cells.toList cn.toNat⟩) hR e hzr;refine ⟨_,_,_,ai (by rw [hrun,hcells]),?_,h3,h4⟩;have:=VR.slice (Γ:=Γ.next H.n (w.heap.size,0)) (w:=w.alloc (.cells ⟨Iv.dx z.cells.toList cn.toNat⟩ e)) (o:=0) (l:=ln.toNat) (c:=cn.toNat) (.inr rfl) (by unfold eE;omega) (by omega) (.inr rfl);simpa [Ga.at,Ga.bp] using this
    ·cases h
   ·cases h
  ·cases h
 ·cases h
end Go.Iv
/- The operations, one by one (the third part). -/
namespace Go.Iv
open Go
variable {P:Program} {Γ:Ga} {H:IH} {w:World}
theorem ni (s:ByteArray):s.toList=bl s:=ByteArray.toList_eq s
theorem Sq (s:ByteArray):ba (bl s)=s:=by cases s;rfl
theorem MX (s r:ByteArray):s++r=ba (bl s++bl r):=by
 apply ByteArray.ext;simp only [ByteArray.data_append,ba,bl];apply Array.toList_inj.1;simp
abbrev qy (P:Program) (op:BinOp) (t:TypeId) (x y:Operand) (a b:Value) (w:World):Result Next:=
 ((do pure (.value (←(do eqGuard op t x y a b;Go.binOp op t a b:Sem Value)))):Sem Next).run P w
theorem bP {op:BinOp} {t:TypeId} {x y:Operand} {a b v:Value} (hg:eqGuard op t x y a b=pure ()) (hb:(Go.binOp op t a b).run P w= .ok v w):
  qy P op t x y a b w= .ok (.value v) w:=by
 simp [qy,hg,hb]
def tV (neg:Bool):BinOp:=if neg then .neq else .eql
def kH:Value->Bool
 | .pointer _ | .slice .. | .map _ | .func .. | .nilFunc | .iface .. | .nilIface | .bool _=>true
 |_=>false
theorem EW (neg:Bool) (t:TypeId) {a b:Value} (ha:kH a=true):
  (Go.binOp (tV neg) t a b).run P w=((Op.equal t a b).run P w).andThen fun r w'=> .ok (.bool (if neg then !r else r)) w':=by
 cases neg<;>cases a<;>first |(simp [kH] at ha;done) |(cases b<;>simp [tV,Go.binOp])
theorem cw (t:TypeId) (a b:Value):Op.equal t a b=Op.equalIn (9999+1) t a b:=rfl
theorem R3 (b o o':Nat):(Γ.at b o==Γ.at b o')=(o==o'):=by
 by_cases h:o=o'
 ·subst h;simp
 ·have:Γ.at b o≠Γ.at b o':=by
   intro e;simp only [Ga.at,Addr.mk.injEq] at e;omega
  rw [beq_eq_false_iff_ne.2 this,beq_eq_false_iff_ne.2 h]
theorem Sa {t:TypeId} {a b a' b':Value} {r:Bool} (h:ef P H t a b=some r) (ha:VR Γ w a a') (hb:VR Γ w b b'):
  (kH a'=true∨∃ s r,a'= .string s/\b'= .string r)/\(kH a'=true->(Op.equal t a' b').run P w= .ok r w):=by
 unfold ef at h;split at h
 all_goals (first |(cases h;done) |skip)
 ·rename_i s s' hu
  rw [ha.cK,hb.cK];exact ⟨.inr ⟨_,_,rfl,rfl⟩,fun h=>by simp [kH] at h⟩
 ·rename_i e p hu
  cases h;rw [ha.AP];refine ⟨.inl rfl,fun _=>?_⟩;rw [cw,Op.equalIn];cases p with
  |none=>rw [hb.AP];simp [run_underlying hu]
  |some p=>obtain ⟨b1,o1,rfl,_,rfl⟩:=hb.oy;simp [run_underlying hu]
 ·rename_i e p hu
  cases h;obtain ⟨b1,o1,rfl,_,rfl⟩:=ha.oy;rw [hb.AP];refine ⟨.inl rfl,fun _=>?_⟩;rw [cw,Op.equalIn];simp [run_underlying hu]
 ·rename_i e b1 o1 b2 o2 hu
  split at h
  ·rename_i hc
   cases h;simp only [zae,beq_iff_eq,bne_iff_ne,ne_eq] at hc;obtain ⟨⟨hbb,hsz⟩,_⟩:=hc;subst hbb;obtain ⟨b3,o3,e3,hd,rfl⟩:=ha.oy;cases e3;obtain ⟨b4,o4,e4,_,rfl⟩:=hb.oy;cases e4;refine ⟨.inl rfl,fun _=>?_⟩;rw [cw,Op.equalIn];cases hi:P.info? e with
   |none=>simp [hi] at hsz
   |some i=>
    simp only [hi,Option.map_some,Option.getD_some] at hsz;have:(sameAddr (Γ.at b1 o1) (Γ.at b1 o2)).run P w= .ok (o1==o2) w:=by
     rw [←R3 (Γ:=Γ) b1];simp [sameAddr,Ga.at]
    simp [run_underlying hu,aX hi,hsz,this]
  ·cases h
 ·rename_i e l c p n m hu
  cases h;obtain ⟨rfl,rfl,rfl⟩:=ha.jm;refine ⟨.inl rfl,fun _=>?_⟩;rw [cw,Op.equalIn];cases p with
  |none=>obtain ⟨_,_,rfl⟩:=hb.jm;simp [run_underlying hu]
  |some p=>
   obtain ⟨b1,o1,rfl,_,hs⟩:=hb.ej;rcases hs with ⟨_,_,_,rfl,_⟩ |⟨s,c',a',_,rfl,_,_⟩<;>simp [run_underlying hu]
 ·rename_i e p l c n m hu
  cases h;obtain ⟨_,_,rfl⟩:=hb.jm;obtain ⟨b1,o1,rfl,_,hs⟩:=ha.ej;rcases hs with ⟨_,_,_,rfl,_⟩ |⟨s,c',a',_,rfl,_,_⟩
  all_goals
   refine ⟨.inl rfl,fun _=>?_⟩;rw [cw,Op.equalIn];simp [run_underlying hu]
 ·rename_i k e p hu
  cases h;rw [ha.Eu];refine ⟨.inl rfl,fun _=>?_⟩;rw [cw,Op.equalIn];cases p with
  |none=>rw [hb.Eu];simp [run_underlying hu]
  |some p=>rw [hb.Ry.2];simp [run_underlying hu]
 ·rename_i k e p hu
  cases h;rw [ha.Ry.2,hb.Eu];refine ⟨.inl rfl,fun _=>?_⟩;rw [cw,Op.equalIn];simp [run_underlying hu]
 ·rename_i ps rs v hu
  cases h;rw [ha.oV,hb.oV];refine ⟨.inl rfl,fun _=>?_⟩;rw [cw,Op.equalIn];simp [run_underlying hu]
 ·rename_i ps rs v fn x y hu
  cases h;rw [ha.oV];refine ⟨.inl rfl,fun _=>?_⟩;rw [cw,Op.equalIn];cases hb with
  |func=>simp [run_underlying hu]
  |yield=>simp [run_underlying hu]
 ·rename_i ps rs v fn x y hu
  cases h;rw [hb.oV];cases ha with
  |func=>exact ⟨.inl rfl,fun _=>by rw [cw,Op.equalIn];simp [run_underlying hu]⟩
  |yield=>exact ⟨.inl rfl,fun _=>by rw [cw,Op.equalIn];simp [run_underlying hu]⟩
 ·rename_i ms d v hu
  cases h;rw [ha.Ar];obtain ⟨x,rfl,_⟩:=hb.CD;exact ⟨.inl rfl,fun _=>by rw [cw,Op.equalIn];simp [run_underlying hu]⟩
 ·rename_i ms d v hu
  cases h;rw [hb.Ar];obtain ⟨x,rfl,_⟩:=ha.CD;exact ⟨.inl rfl,fun _=>by rw [cw,Op.equalIn];simp [run_underlying hu]⟩
theorem yU {neg:Bool} {t:TypeId} {x y:Operand} {a b:Value} (h:kH a=true) (hn:a= .nilIface->b≠ .nilIface):eqGuard (tV neg) t x y a b=pure ():=by
 cases a<;>first |(simp [kH] at h;done) |(cases neg<;>cases b<;>first |rfl |(exact absurd rfl (hn rfl)))
theorem tA (hR:Rh Γ H w) {neg:Bool} {t:TypeId} {x y:Operand} {a b a' b':Value} {res:ag} (h:bT P H neg t x y a b=some res) (ha:VR Γ w a a') (hb:VR Γ w b b'):
  Good Γ H w (qy P (tV neg) t x y a' b' w) res:=by
 unfold bT at h;split at h
 ·rename_i k n k' m
  split at h
  ·rename_i hk
   subst hk;cases h;rw [ha.ff,hb.ff];refine aj hR (.bool _) (bP (eqGuard_at_int ..) ?_);cases neg
   ·simp [tV,binOp_eql]
   ·simp [tV,binOp_neq]
  ·cases h
 ·rename_i s r
  cases h;rw [ha.cK,hb.cK];refine aj hR (.bool _) (bP (eqGuard_at_string ..) ?_);cases neg
  ·simp [tV,binOp_string_eql,ni]
  ·simp [tV,binOp_string_neq,ni]
 ·rename_i hni hns
  split at h
  ·rename_i r hr
   cases h;have key:=Sa (P:=P) hr ha hb;rcases key.1 with hbe |⟨s,s',rfl,rfl⟩
   ·refine aj hR (.bool _) (bP (yU hbe ?_) ?_)
    ·rintro rfl rfl
     have h1:a= .nilIface:=by cases ha with |nilIface=>rfl |aS=>simp [ef] at hr
     have h2:b= .nilIface:=by cases hb with |nilIface=>rfl |aS=>subst h1;simp [ef] at hr
     subst h1 h2;simp [ef] at hr
    ·rw [EW neg t hbe,key.2 hbe];rfl
   ·exfalso
    have h1:a= .string s:=by cases ha with |string=>rfl |aS=>simp [ef] at hr
    have h2:b= .string s':=by cases hb with |string=>rfl |aS=>subst h1;simp [ef] at hr
    exact hns s s' h1 h2
  ·split at h
   ·rename_i hf
    simp only [zae] at hf;split at h
    ·rename_i v hv
     split at h
     ·rename_i hok
      cases h;rw [ha.ec hf.1,hb.ec hf.2];exact aj hR (.cu hok) (ai (kb hv w))
     ·cases h
    ·cases h
   ·cases h
theorem Ih {op:BinOp} {t:TypeId} {x y:Operand} {k k':IntKind} {n m:Int} {v:Value} (hR:Rh Γ H w) (h:bQ P (Go.binOp op t (.int k n) (.int k' m))=some v) (hf:aV v=true):
  Good Γ H w (qy P op t x y (.int k n) (.int k' m) w) (.val v H):=
 aj hR (.cu hf) (bP (eqGuard_at_int ..) (kb h w))
theorem Jb (hR:Rh Γ H w) {op:BinOp} {t:TypeId} {x y:Operand} {a b a' b':Value} {res:ag} (h:aD P H op t x y a b=some res) (ha:VR Γ w a a') (hb:VR Γ w b b'):
  Good Γ H w (qy P op t x y a' b' w) res:=by
 unfold aD at h;split at h
 ·exact tA hR h ha hb
 ·exact tA hR h ha hb
 ·split at h
  ·split at h
   ·rename_i hk;subst hk;cases h;rw [ha.ff,hb.ff]
    exact aj hR (.bool _) (bP (eqGuard_at_int ..) (by rw [binOp_lss,mK];rfl))
   ·cases h
  ·cases h;rw [ha.cK,hb.cK]
   exact aj hR (.bool _) (bP (eqGuard_at_string ..) (by rw [binOp_string_lss,ni,ni];rfl))
  ·cases h
 ·split at h
  ·split at h
   ·rename_i hk;subst hk;cases h;rw [ha.ff,hb.ff]
    exact aj hR (.bool _) (bP (eqGuard_at_int ..) (by rw [binOp_leq,kI];rfl))
   ·cases h
  ·cases h
 ·split at h
  ·split at h
   ·rename_i hk;subst hk;cases h;rw [ha.ff,hb.ff]
    exact aj hR (.bool _) (bP (eqGuard_at_int ..) (by rw [binOp_gtr,mK];rfl))
   ·cases h
  ·cases h
 ·split at h
  ·split at h
   ·rename_i hk;subst hk;cases h;rw [ha.ff,hb.ff]
    exact aj hR (.bool _) (bP (eqGuard_at_int ..) (by rw [binOp_geq,kI];rfl))
   ·cases h
  ·cases h
 ·split at h
  ·split at h
   ·rename_i hk;subst hk;cases h;rw [ha.ff,hb.ff]
    exact aj hR (.int _ _) (bP (eqGuard_at_int ..) (by rw [binOp_add];rfl))
   ·cases h
  ·split at h
   ·rename_i hsz
    cases h;rw [ha.cK,hb.cK];refine aj hR (.string _) (bP (eqGuard_at_string ..) ?_);rename_i s r;have:¬ ((s.size+r.size:Nat):Int)>IntKind.i64.max:=by
     have e:IntKind.i64.max=9223372036854775807:=by decide
     have e2:roomy=1099511627776:=by decide
     rw [e];rw [e2] at hsz;omega
    rw [binOp_string_add];simp only [Op.stringOp,if_neg this,MX];rfl
   ·cases h
  ·cases h
 ·split at h
  ·split at h
   ·rename_i hk;subst hk;cases h;rw [ha.ff,hb.ff]
    exact aj hR (.int _ _) (bP (eqGuard_at_int ..) (by rw [binOp_sub];rfl))
   ·cases h
  ·cases h
 ·split at h
  ·split at h
   ·rename_i v hv
    split at h
    ·rename_i hf
     cases h;rw [ha.ff,hb.ff];exact Ih hR hv hf
    ·cases h
   ·cases h
  ·cases h
theorem NV (hR:Rh Γ H w) {op:UnOp} {a a':Value} {res:ag} (h:EG P H op a=some res) (ha:VR Γ w a a'):Good Γ H w ((bz (Op.unary op a')).run P w) res:=by
 unfold EG at h;split at h
 ·split at h
  ·cases h;rw [ha.By];exact aj hR (.bool _) (ai rfl)
  ·cases h
 ·split at h
  ·rename_i v hv
   split at h
   ·rename_i hf
    cases h;rw [ha.ff];exact aj hR (.cu hf) (ai (kb hv w))
   ·cases h
  ·cases h
 ·cases h
theorem um (hR:Rh Γ H w) {o:Oper} {x:Operand} {Z:Operand->Value} (ho:o.op= .nilCheck x) {a:Value} {res:ag} (h:ek H a=some res) (ha:VR Γ w a (Z x)):
  Good Γ H w ((execOp Z o).run P w) res:=by
 unfold ek at h;split at h
 ·cases h
  obtain ⟨b,o',rfl,hd,e⟩:=ha.oy;exact aj hR (.ptr hd) (by simp only [execOp,ho,e];rfl)
 ·cases h
  obtain ⟨a',c',e,h1,h2⟩:=ha.KD rfl;exact aj hR (.func rfl h1 h2) (by simp only [execOp,ho,e];rfl)
 ·cases h
  obtain ⟨rfl,rfl,hd,e⟩:=ha.O1;exact aj hR (.yield hd) (by simp only [execOp,ho,e];rfl)
 ·cases h
theorem oc {t k e:TypeId} (h:pJ P t=some (k,e)):P.underlying t=some (.map k e):=by
 unfold pJ at h;split at h
 ·rename_i k' e' hu;cases h;exact hu
 ·cases h
theorem oG {empty:Bool} {kt:TypeId} {k:Value} (h:lr P empty kt k=true):free k=true:=by
 unfold lr at h;split at h
 ·rfl
 ·rfl
 ·rfl
 ·simp only [zae] at h;exact h.1
 ·cases h
theorem gS {empty:Bool} {kt:TypeId} {k:Value} (h:lr P empty kt k=true):(Instr.checkKey empty 10000 kt k).run P w= .ok () w:=by
 unfold lr at h;split at h
 ·rename_i hu;rw [show (10000:Nat)=9999+1 from rfl,Instr.checkKey];simp [run_underlying hu]
 ·rename_i hu;rw [show (10000:Nat)=9999+1 from rfl,Instr.checkKey];simp [run_underlying hu]
 ·rename_i hu;rw [show (10000:Nat)=9999+1 from rfl,Instr.checkKey];simp [run_underlying hu]
 ·simp only [zae] at h
  have h2:=h.2;split at h2
  ·rename_i hr;exact kb hr w
  ·cases h2
 ·cases h
def QF (Γ:Ga) (w:World):Option (Nat×Value)->Option (Nat×Value)->Prop
 |none,none=>True
 |some (i,v),some (i',v')=>i=i'/\VR Γ w v v'
 |_,_=>False
theorem VO (a b:ByteArray):(a==b)=(bl a==bl b):=by
 show (a.data==b.data)=(a.data.toList==b.data.toList)
 exact (Array.beq_toList a.data b.data).symm
theorem mr {kt:TypeId} {d:TypeDesc} {k:Value} (hd:P.underlying kt=some d) (hs:(∃ q n,k= .int q n)/\(∃ q,d= .int q)∨(∃ s,k= .string s)/\d= .string∨(∃ b,k= .bool b)/\d= .bool):
  ∀ {es es':List MapEntry},gP Γ w es es'->∀ {i:Nat} {r:Option (Nat×Value)},iU P kt k es i=some r->∃ r',Instr.findNow d k es' i=some r'/\QF Γ w r r':=by
 intro es es' hE
 induction hE with
 |nil=>intro i r h;simp only [iU,Option.some.injEq] at h;subst h;exact ⟨none,rfl,trivial⟩
 |@cons e e' l l' hk hf hv hb t ih=>
  intro i r h;have hkey:=hk.ec hf;simp only [iU] at h;have key:fQ P kt k e.key=some true∨fQ P kt k e.key=some false:=by
   split at h
   ·rename_i hc;exact .inl hc
   ·rename_i hc;exact .inr hc
   ·cases h
  have hn:Instr.sameNow d k e'.key=fQ P kt k e.key:=by
   rw [hkey];rcases hs with ⟨⟨q,n,rfl⟩,⟨q',rfl⟩⟩ |⟨⟨s,rfl⟩,rfl⟩ |⟨⟨b,rfl⟩,rfl⟩
   ·cases hek:e.key<;>simp_all [fQ,Instr.sameNow]
   ·cases hek:e.key<;>simp_all [fQ,Instr.sameNow,VO]
   ·cases hek:e.key<;>simp_all [fQ,Instr.sameNow]
  rcases key with hc |hc
  ·simp only [hc,Option.some.injEq] at h
   subst h;exact ⟨some (i,e'.val),by simp only [Instr.findNow,hn,hc],rfl,hv⟩
  ·simp only [hc] at h
   obtain ⟨r',h1,h2⟩:=ih h;exact ⟨r',by simp only [Instr.findNow,hn,hc];exact h1,h2⟩
theorem yq {kt:TypeId} {cs:Array Value}:
  ∀ {es es':List MapEntry},gP Γ w es es'->∀ {i:Nat} {r:Option (Nat×Value)},iU P kt (.agg cs) es i=some r->∃ r',(Instr.findAsking kt (.agg cs) es' i).run P w= .ok r' w/\QF Γ w r r':=by
 intro es es' hE
 induction hE with
 |nil=>intro i r h;simp only [iU,Option.some.injEq] at h;subst h;exact ⟨none,by simp [Instr.findAsking],trivial⟩
 |@cons e e' l l' hk hf hv hb t ih=>
  intro i r h;have hkey:=hk.ec hf;simp only [iU] at h;have hrun:∀ b,fQ P kt (.agg cs) e.key=some b->(Op.equal kt (.agg cs) e'.key).run P w= .ok b w:=by
   intro b hb;rw [hkey];unfold fQ at hb;split at hb
   ·rename_i heq _;cases heq
   ·rename_i heq _;cases heq
   ·rename_i heq _;cases heq
   ·rename_i a b' heq hek;cases heq;rw [hek];exact kb hb w
   ·cases hb
  split at h
  ·rename_i hc
   simp only [Option.some.injEq] at h;subst h;exact ⟨some (i,e'.val),by simp [Instr.findAsking,hrun _ hc],rfl,hv⟩
  ·rename_i hc
   obtain ⟨r',h1,h2⟩:=ih h;exact ⟨r',by simp [Instr.findAsking,hrun _ hc,h1],h2⟩
  ·cases h
theorem gR {empty:Bool} {kt:TypeId} {k:Value} (hgo:lr P empty kt k=true) {es es':List MapEntry} (hE:gP Γ w es es') {r:Option (Nat×Value)} (h:iU P kt k es 0=some r):
  ∃ r',(Instr.findKey kt k es').run P w= .ok r' w/\QF Γ w r r':=by
 unfold lr at hgo;split at hgo
 ·rename_i q q' n hu
  obtain ⟨r',h1,h2⟩:=mr hu (.inl ⟨⟨_,_,rfl⟩,⟨_,rfl⟩⟩) hE h;exact ⟨r',by simp [Instr.findKey,run_underlying hu,h1],h2⟩
 ·rename_i s hu
  obtain ⟨r',h1,h2⟩:=mr hu (.inr (.inl ⟨⟨_,rfl⟩,rfl⟩)) hE h;exact ⟨r',by simp [Instr.findKey,run_underlying hu,h1],h2⟩
 ·rename_i b hu
  obtain ⟨r',h1,h2⟩:=mr hu (.inr (.inr ⟨⟨_,rfl⟩,rfl⟩)) hE h;exact ⟨r',by simp [Instr.findKey,run_underlying hu,h1],h2⟩
 ·rename_i fs cs hu
  obtain ⟨r',h1,h2⟩:=yq hE h;refine ⟨r',?_,h2⟩;simp only [Instr.findKey,Sem.run_bind,run_underlying hu,Result.andThen_ok];cases hE with
  |nil=>simp only [Instr.findNow];simp only [Instr.findAsking,Sem.run_pure] at h1;exact h1
  |cons=>simp only [Instr.findNow,Instr.sameNow];exact h1
 ·cases hgo
theorem iZ {r:Nat} {es:Array MapEntry} {ck:Nat} (h:w.heap[r]? =some (.map es ck)):(getObj r).run P w= .ok (.map es ck) w:=by
 simp [getObj,Sem.run,h]
theorem gP.isEmpty {es es':List MapEntry} (h:gP Γ w es es'):es'.isEmpty=es.isEmpty:=by cases h<;>rfl
theorem zx (hR:Rh Γ H w) {t:TypeId} {x k x' k':Value} {ok:Bool} {res:ag} (h:cU P H t x k ok=some res) (hx:VR Γ w x x') (hk:VR Γ w k k'):
  Good Γ H w ((bz (Instr.lookup t x' k' ok)).run P w) res:=by
 unfold cU at h;split at h
 ·rename_i kt e r hm
  have hu:=oc hm;split at h
  ·rename_i es ck hb
   split at h
   ·rename_i hgo
    obtain ⟨hd,rfl⟩:=hx.Ry;rw [hk.ec (oG hgo)];obtain ⟨es',ho,hE⟩:=hR.obj r _ hb;have hem:es'.isEmpty=es.isEmpty:=by rw [←hE.isEmpty];simp
    split at h
    ·rename_i i v hf
     cases h;obtain ⟨r',h1,h2⟩:=gR hgo hE hf
     match r',h2 with
     |some (i',v'),⟨_,hv⟩=>
      refine aj hR (hv.fR ok true) (ai ?_);simp only [Instr.lookup,Sem.run_bind,run_underlying hu,Result.andThen_ok,iZ ho,hem,gS hgo,h1,Sem.run_pure]
    ·rename_i hf
     split at h
     ·rename_i z hz
      cases h;obtain ⟨r',h1,h2⟩:=gR hgo hE hf
      match r',h2 with
      |none,_=>
       refine aj hR ((VR.jk (dN hz)).fR ok false) (ai ?_);simp only [Instr.lookup,Sem.run_bind,run_underlying hu,Result.andThen_ok,iZ ho,hem,gS hgo,h1,Sem.run_pure,dd hz]
     ·cases h
    ·cases h
   ·cases h
  ·cases h
 ·rename_i kt e hm
  have hu:=oc hm;split at h
  ·rename_i hgo
   split at h
   ·rename_i z hz
    cases h;rw [hx.Eu,hk.ec (oG hgo)];obtain ⟨r',h1,h2⟩:=gR (Γ:=Γ) (w:=w) hgo .nil (r:=none) rfl
    match r',h2 with
    |none,_=>
     refine aj hR ((VR.jk (dN hz)).fR ok false) (ai ?_);have hgo':=gS (w:=w) hgo;simp only [Instr.lookup,Sem.run_bind,run_underlying hu,Result.andThen_ok,Sem.run_pure];simp [hgo',h1,dd hz]
   ·cases h
  ·cases h
 ·cases h
theorem gP.set {es es':List MapEntry} (h:gP Γ w es es') {k v v':Value} (hk:VR Γ w k k) (hf:free k=true) (hv:VR Γ w v v') (i:Nat):
  gP Γ w (Cw k v es i) (es'.modify i fun e=>{ e with key:=k,val:=v' }):=by
 induction h generalizing i with
 |nil=>simp [Cw];exact .nil
 |cons hk' hf' hv' hb t ih=>
  cases i with
  |zero=>simp only [Cw,List.modify_zero_cons];exact .cons hk hf hv hb t
  |succ i=>simp only [Cw,List.modify_succ_cons];exact .cons hk' hf' hv' hb (ih i)
theorem gP.snoc {es es':List MapEntry} (h:gP Γ w es es') {e e':MapEntry} (hk:VR Γ w e.key e'.key) (hf:free e.key=true) (hv:VR Γ w e.val e'.val) (hb:e'.born=e.born):gP Γ w (es++ [e]) (es'++ [e']):=by
 induction h with
 |nil=>exact .cons hk hf hv hb .nil
 |cons a b c d _ ih=>exact .cons a b c d ih
theorem gP.get {es es':List MapEntry} (h:gP Γ w es es') {i:Nat} {e:MapEntry} (hi:es[i]? =some e):∃ e',es'[i]? =some e'/\e'.key=e.key:=by
 induction h generalizing i with
 |nil=>simp at hi
 |cons hk hf _ _ _ ih=>
  cases i with
  |zero=>simp at hi;subst hi;exact ⟨_,by simp,hk.ec hf⟩
  |succ i=>simp at hi;obtain ⟨e',h1,h2⟩:=ih hi;exact ⟨e',by simpa using h1,h2⟩
theorem nP (hR:Rh Γ H w) {t:TypeId} {m k v m' k' v':Value} {res:ag} (h:eR P H t m k v=some res) (hm':VR Γ w m m') (hk:VR Γ w k k') (hv:VR Γ w v v'):
  Good Γ H w ((do Instr.mapUpdate t m' k' v';pure .skip:Sem Next).run P w) res:=by
 unfold eR at h;split at h
 ·rename_i kt e r hm
  have hu:=oc hm;split at h
  ·cases h
  ·rename_i hro
   split at h
   ·rename_i es ck hb
    split at h
    ·rename_i hgo
     obtain ⟨hd,rfl⟩:=hm'.Ry;have hfk:=oG hgo;rw [hk.ec hfk];have hkk:VR Γ w k k:= .jk hfk;obtain ⟨es',ho,hE⟩:=hR.obj r _ hb
     have hX:∀ (es1:List MapEntry) (es1':Array MapEntry) (ck1:Nat),gP Γ w es1 es1'.toList->
       Rh Γ (H.put r (.map es1 ck1)) (lay w (Γ.φ r).1 (.map es1' ck1))/\Ext Γ H w Γ (H.put r (.map es1 ck1)) (lay w (Γ.φ r).1 (.map es1' ck1)):=by
      intro es1 es1' ck1 hE1;have hs:eN w (lay w (Γ.φ r).1 (.map es1' ck1)):=Ay ho (by simp);exact hR.hX _ hb (by omega) (by simp) rfl rfl rfl hs (fun x hx=>cg hx) ⟨es1',b7 ho,hE1.mono (.refl Γ) hs⟩
     have hset:∀ o,(setObj (Γ.φ r).1 o).run P w= .ok () (lay w (Γ.φ r).1 o):=by
      intro o;simp [setObj,Sem.run,ho,lay]
     split at h
     ·rename_i i v0 hf
      split at h
      ·rename_i e0 he0
       split at h
       ·rename_i hsame
        cases h;obtain ⟨r',h1,h2⟩:=gR hgo hE hf
        match r',h2 with
        |some (i',v0'),⟨hi,_⟩=>
         subst hi;obtain ⟨e0',he0',hkey⟩:=hE.get he0;have he0'':es'[i]? =some e0':=by simpa using he0'
         obtain ⟨h3,h4⟩:=hX (Cw k v es i) (es'.modify i fun e=>{ e with key:=k,val:=v' }) ck (by simpa using hE.set hkk hfk hv i);refine ⟨_,_,?_,h3,h4⟩
         simp only [Instr.mapUpdate,Sem.run_bind,run_underlying hu,Result.andThen_ok,iZ ho,gS hgo,h1,he0'',Option.map_some,Option.getD_some,hkey,Instr.keyThatStays,hsame,if_true,
          Sem.run_pure,hset]
       ·cases h
      ·cases h
     ·rename_i hf
      cases h;obtain ⟨r',h1,h2⟩:=gR hgo hE hf
      match r',h2 with
      |none,_=>
       obtain ⟨h3,h4⟩:=hX (es++ [{ key:=k,val:=v,born:=ck }]) (es'.push { key:=k,val:=v',born:=ck }) (ck+1) (by simpa using hE.snoc (e:={ key:=k,val:=v,born:=ck }) (e':={ key:=k,val:=v',born:=ck }) hkk hfk hv rfl);refine ⟨_,_,?_,h3,h4⟩;simp only [Instr.mapUpdate,Sem.run_bind,run_underlying hu,Result.andThen_ok,iZ ho,gS hgo,h1,hset,Sem.run_pure]
     ·cases h
    ·cases h
   ·cases h
 ·cases h
end Go.Iv
/- The operations, one by one (the fourth part): slices. -/
namespace Go.Iv
open Go
variable {P:Program} {Γ:Ga} {H:IH} {w:World}
def eh (Γ:Ga) (w:World):Option Value->Option Value->Prop
 |none,none=>True
 |some v,some v'=>VR Γ w v v'
 |_,_=>False
theorem eh.eT {Z Z':Operand->Value} (hv:∀ x,VR Γ w (Z x) (Z' x)) (o:Option Operand):eh Γ w (o.map Z) (o.map Z'):=by
 cases o with
 |none=>exact trivial
 |some x=>exact hv x
theorem ng {y Y n:Nat} {v v':Value} (h:bound y v=some n) (hv:VR Γ w v v') (hy:y<=Y) (code:BoundsCode):(Instr.sliceBound v' Y code).run P w= .ok n w/\n<=y:=by
 unfold bound at h;split at h
 ·rename_i k i
  split at h
  ·rename_i hc
   cases h;simp only [zae,decide_eq_true_eq] at hc;rw [hv.ff];refine ⟨?_,by omega⟩;have h2:0<=i/\i<=(Y:Int):=by omega
   simp [Instr.sliceBound,asIntOf,h2]
  ·cases h
 ·cases h
theorem EP {y n:Nat} {o o':Option Value} (h:bN y 0 o=some n) (ho:eh Γ w o o') (code:BoundsCode):
  n<=y/\((o'=none/\n=0)∨∃ v',o'=some v'/\(Instr.sliceBound v' y code).run P w= .ok n w):=by
 cases o with
 |none=>cases o' with
  |none=>simp only [bN,Option.some.injEq] at h;subst h;exact ⟨Nat.zero_le _,.inl ⟨rfl,rfl⟩⟩
  |some=>exact ho.elim
 |some v=>cases o' with
  |none=>exact ho.elim
  |some v'=>obtain ⟨a,b⟩:=ng (P:=P) h ho (zai _) code;exact ⟨b,.inr ⟨v',rfl,a⟩⟩
theorem iG {b:Bool} {len top cap h l:Nat} {lo hi lo' hi':Option Value} (hh:bN top len hi=some h) (hl:bN h 0 lo=some l) (hlo:eh Γ w lo lo') (hhi:eh Γ w hi hi') (htop:top<=cap) (hlen:len<=top):
  (Instr.sliceBounds b len cap lo' hi' none).run P w= .ok (l,h,cap) w/\l<=h/\h<=top:=by
 obtain ⟨h2,h1⟩:=EP (P:=P) hl hlo .sliceB;cases hi with
 |none=>cases hi' with
  |some=>exact hhi.elim
  |none=>
   simp only [bN,Option.some.injEq] at hh;subst hh;refine ⟨?_,h2,hlen⟩;rcases h1 with ⟨rfl,rfl⟩ |⟨v',rfl,h1⟩
   ·simp [Instr.sliceBounds]
   ·simp [Instr.sliceBounds,h1]
 |some v=>cases hi' with
  |none=>exact hhi.elim
  |some v'=>
   obtain ⟨h3,h4⟩:=ng (P:=P) (v:=v) hh hhi htop (if b then .sliceAcap else .sliceAlen);refine ⟨?_,h2,h4⟩;rcases h1 with ⟨rfl,rfl⟩ |⟨v',rfl,h1⟩
   ·simp [Instr.sliceBounds,h3]
   ·simp [Instr.sliceBounds,h1,h3]
theorem sP {b:Bool} {len y cap m h l:Nat} {lo lo':Option Value} {hv hv' mv mv':Value} (hm:bound y mv=some m) (hh:bound m hv=some h) (hl:bN h 0 lo=some l) (hlo:eh Γ w lo lo') (hhi:VR Γ w hv hv')
  (hmv:VR Γ w mv mv') (hy:y<=cap):
  (Instr.sliceBounds b len cap lo' (some hv') (some mv')).run P w= .ok (l,h,m) w/\l<=h/\h<=m/\m<=y:=by
 obtain ⟨h2,h1⟩:=EP (P:=P) hl hlo .slice3C;obtain ⟨h3,h4⟩:=ng (P:=P) hm hmv hy (if b then .slice3Acap else .slice3Alen);obtain ⟨h5,h6⟩:=ng (P:=P) hh hhi (zai _) .slice3B;refine ⟨?_,h2,h6,h4⟩;rcases h1 with ⟨rfl,rfl⟩ |⟨v',rfl,h1⟩
 ·simp [Instr.sliceBounds,h3,h5]
 ·simp [Instr.sliceBounds,h1,h3,h5]
theorem yr (s:ByteArray) (l h:Nat):s.extract l h=ba (((bl s).drop l).take (h - l)):=by
 conv=>lhs;rw [←Sq s]
 exact ByteArray.extract_mk (bl s) l h
theorem zd {t e:TypeId} {i:TypeInfo} (hu:P.underlying t=some (.slice e)) (hi:P.info? e=some i) {a:Option Addr} {len cap:Nat} {x':Value} {lo hi' mx lo' hi'' mx':Option Value} {v:Value}
  (h:cp a i.size len cap lo hi' mx=some v) (hx:VR Γ w (.slice a len cap) x') (hlo:eh Γ w lo lo') (hhi:eh Γ w hi' hi'') (hmx:eh Γ w mx mx'):
  ∃ v',(Instr.sliceAt t x' lo' hi'' mx').run P w= .ok v' w/\VR Γ w v v':=by
 have start:∀ (a':Option Addr) (len' cap' l h m:Nat),(Instr.sliceBounds true len' cap' lo' hi'' mx').run P w= .ok (l,h,m) w->
   (Instr.sliceAt t (.slice a' len' cap') lo' hi'' mx').run P w= .ok (.slice (if m=l then a' else a'.map (·.add (l*i.size))) (h - l) (m - l)) w:=by
  intro a' len' cap' l h m hb;simp only [Instr.sliceAt,Sem.run_bind,run_underlying hu,Result.andThen_ok,Instr.slice,hb,aX hi,Sem.run_pure]
 unfold cp at h;split at h
 ·-- nil
  split at h
  ·rename_i hb hh
   split at h
   ·rename_i l hl
    cases h;obtain ⟨rfl,rfl,rfl⟩:=hx.jm;cases mx' with
    |some=>exact hmx.elim
    |none=>
     obtain ⟨h1,h2,h3⟩:=iG (P:=P) (b:=true) (cap:=0) hh hl hlo hhi (zai _) (zai _);refine ⟨_,start _ _ _ _ _ _ h1,?_⟩;obtain rfl:l=0:=by omega
     obtain rfl:hb=0:=by omega
     exact .Dl
   ·cases h
  ·cases h
 ·rename_i b off
  cases mx' with
  |some=>exact hmx.elim
  |none=>
   obtain ⟨b1,o1,e1,hd,hs⟩:=hx.ej;cases e1;split at h
   ·rename_i hcap
    split at h
    ·rename_i hcs
     have hcs':cap=eE+i.size:=by simpa using hcs
     split at h
     ·rename_i hb hh
      split at h
      ·rename_i l hl
       cases h;rcases hs with ⟨hc,_⟩ |⟨s,c',a',hc,rfl,hlc,hr⟩
       ·omega
       ·obtain rfl:s=i.size:=by omega
        obtain ⟨h1,h2,h3⟩:=iG (P:=P) (b:=true) (cap:=c') hh hl hlo hhi hlc (zai _);refine ⟨_,start _ _ _ _ _ _ h1,?_⟩;subst hc;by_cases hcl:c'=l
        ·rw [if_pos hcl]
         exact .dV hd (by omega) (.inl ⟨by omega,by omega,by rcases hr with ⟨_,_,x⟩ |⟨rfl,_⟩<;>first |exact x |rfl⟩)
        ·rw [if_neg hcl]
         rcases hr with ⟨hc0,hl0,_⟩ |⟨rfl,hroom⟩
         ·omega
         ·simp only [Option.map_some,gV]
          refine .dV hd (by omega) (.inr ⟨rfl,?_⟩);obtain ⟨cs,el,f,hb1,hb2⟩:=hroom;refine ⟨cs,el,f,hb1,?_⟩;simp only [Ga.at] at hb2 ⊢;rw [Nat.sub_mul];have:l*i.size<=c'*i.size:=Nat.mul_le_mul_right _ (by omega);omega
      ·cases h
     ·cases h
    ·cases h
   ·rename_i hcap
    split at h
    ·rename_i hb hh
     split at h
     ·rename_i l hl
      cases h;rcases hs with ⟨hc,hlc,a',rfl,ha⟩ |⟨s,c',a',hc,rfl,hlc,hr⟩
      ·obtain ⟨h1,h2,h3⟩:=iG (P:=P) (b:=true) (cap:=cap) hh hl hlo hhi (zai _) hlc
       refine ⟨_,start _ _ _ _ _ _ h1,?_⟩;by_cases hcl:cap=l
       ·rw [if_pos hcl]
        exact .slice hd (by omega) (by omega) (.inl ⟨by omega,by rcases ha with ⟨_,x⟩ |rfl<;>first |exact x |rfl⟩)
       ·rw [if_neg hcl]
        obtain rfl:=ha.resolve_left (fun x=>by omega);simp only [Option.map_some,gV];exact .slice hd (by omega) (by omega) (.inr rfl)
      ·omega
     ·cases h
    ·cases h
 ·rename_i b off mv
  cases mx' with
  |none=>exact hmx.elim
  |some mv'=>
   obtain ⟨b1,o1,e1,hd,hs⟩:=hx.ej;cases e1;split at h
   ·rename_i m hm
    split at h
    ·rename_i hmu
     split at h
     ·rename_i hv
      cases hi'' with
      |none=>exact hhi.elim
      |some hv'=>
       split at h
       ·rename_i hb hh
        split at h
        ·rename_i l hl
         cases h;rcases hs with ⟨hc,hlc,a',rfl,ha⟩ |⟨s,c',a',hc,rfl,hlc,hr⟩
         ·rw [if_neg (by omega)] at hm
          obtain ⟨h1,h2,h3,h4⟩:=sP (P:=P) (b:=true) (len:=len) (cap:=cap) hm hh hl hlo hhi hmx (zai _);refine ⟨_,start _ _ _ _ _ _ h1,?_⟩;by_cases hcl:m=l
          ·rw [if_pos hcl]
           exact .slice hd (by omega) (by omega) (.inl ⟨by omega,by rcases ha with ⟨_,x⟩ |rfl<;>first |exact x |rfl⟩)
          ·rw [if_neg hcl]
           obtain rfl:=ha.resolve_left (fun x=>by omega);simp only [Option.map_some,gV];exact .slice hd (by omega) (by omega) (.inr rfl)
         ·rw [if_pos (by omega)] at hm
          obtain ⟨h1,h2,h3,h4⟩:=sP (P:=P) (b:=true) (len:=len) (cap:=c') hm hh hl hlo hhi hmx hlc;refine ⟨_,start _ _ _ _ _ _ h1,?_⟩;by_cases hcl:m=l
          ·rw [if_pos hcl]
           exact .slice hd (by omega) (by omega) (.inl ⟨by omega,by rcases hr with ⟨_,_,x⟩ |⟨rfl,_⟩<;>first |exact x |rfl⟩)
          ·rw [if_neg hcl]
           rcases hr with ⟨hc0,hl0,_⟩ |⟨rfl,hroom⟩
           ·omega
           ·simp only [Option.map_some,gV]
            exact .slice hd (by omega) (by omega) (.inr rfl)
        ·cases h
       ·cases h
     ·cases h
    ·cases h
   ·cases h
 ·cases h
theorem B6 (hR:Rh Γ H w) {t:TypeId} {x x':Value} {lo hi mx lo' hi' mx':Option Value} {res:ag} (h:cV P H t x lo hi mx=some res) (hx:VR Γ w x x') (hlo:eh Γ w lo lo') (hhi:eh Γ w hi hi') (hmx:eh Γ w mx mx'):
  Good Γ H w ((bz (Instr.sliceAt t x' lo' hi' mx')).run P w) res:=by
 unfold cV at h;split at h
 ·rename_i s hu
  split at h
  ·rename_i hb hh
   split at h
   ·rename_i l hl
    cases h;rw [hx.cK];cases mx' with
    |some=>exact hmx.elim
    |none=>
     obtain ⟨h1,h2,h3⟩:=iG (P:=P) (b:=false) (cap:=s.size) hh hl hlo hhi (zai _) (zai _);refine aj hR (.string _) (ai ?_);simp only [Instr.sliceAt,Sem.run_bind,run_underlying hu,Result.andThen_ok,Instr.slice,Option.isSome_none,Bool.false_eq_true,if_false,h1,Sem.run_pure,yr]
   ·cases h
  ·cases h
 ·rename_i e a len cap hu
  split at h
  ·rename_i i hi
   split at h
   ·rename_i v hv
    cases h;obtain ⟨v',h1,h2⟩:=zd hu hi hv hx hlo hhi hmx;exact aj hR h2 (ai h1)
   ·cases h
  ·cases h
 ·rename_i n e b off hu
  split at h
  ·rename_i i hi
   split at h
   ·rename_i hn
    split at h
    ·rename_i hb hh
     split at h
     ·rename_i l hl
      cases h;obtain ⟨b1,o1,e1,hd,rfl⟩:=hx.oy;cases e1;cases mx' with
      |some=>exact hmx.elim
      |none=>
       obtain ⟨h1,h2,h3⟩:=iG (P:=P) (b:=false) (cap:=n) hh hl hlo hhi (zai _) (zai _);refine aj hR (v':= .slice (some (if n=l then Γ.at b off else (Γ.at b off).add (l*i.size))) (hb - l) (n - l)) ?_ (ai ?_)
       ·by_cases hnl:n=l
        ·rw [if_pos hnl];exact .slice hd (by omega) (by omega) (.inl ⟨by omega,rfl⟩)
        ·rw [if_neg hnl,gV];exact .slice hd (by omega) (by omega) (.inr rfl)
       ·simp only [Instr.sliceAt,Sem.run_bind,run_underlying hu,Result.andThen_ok,Instr.sureAddr,Sem.run_pure,h1,aX hi]
     ·cases h
    ·cases h
   ·cases h
  ·cases h
 ·cases h
end Go.Iv
