/- From the world's package-level variables to the evaluator's first heap; the whole law. -/
import Derived.Test.YteknbnkjelmfaaaGreatDoorIvRunX
import Derived.OpenShut
import Derived.LaidLaws
import Derived.Below
set_option linter.unusedSimpArgs false
set_option linter.unusedVariables false
namespace Go.Iv
open Go Go.RowKit
variable {P:Program}
def Cz (P:Program) (rec:TypeId->DataW Unit->Option (List Value)):Nat->List (Nat×TypeId×DataW Unit)->Option (List Value)
 |_,[]=>some []
 |o,(off,t,d)::r=>
  if off=o then
   match rec t d with
   |some vs=>if vs.length=P.cellsOf t then
     match Cz P rec (o+vs.length) r with
     |some rs=>some (vs++rs)
     |none=>none
    else none
   |none=>none
  else none
def Dl (P:Program):Nat->TypeId->DataW Unit->Option (List Value)
 |0,_,_=>none
 |f+1,t,d=>
  match P.underlying t,d with
  |some (.int k),.lit (.int k' n)=>if k=k' then some [.int k n] else none
  |some .bool,.lit (.bool b)=>some [.bool b]
  |some .string,.lit (.string s)=>some [.string (ba s)]
  |some (.array n e),.agg ds=>if ds.length=n then
    match Cz P (Dl P f) 0 (ds.zipIdx.map fun x=>(x.2*P.cellsOf e,e,x.1)) with
    |some vs=>if vs.length=P.cellsOf t then some vs else none
    |none=>none
   else none
  |some (.struct fs),.agg ds=>if ds.length=fs.size then
    match Cz P (Dl P f) 0 ((fs.toList.zip ds).map fun x=>(x.1.offset,x.1.type,x.2)) with
    |some vs=>if vs.length=P.cellsOf t then some vs else none
    |none=>none
   else none
  |_,_=>none
theorem vx {rec:TypeId->DataW Unit->Option (List Value)} {cs:List Value}:∀ (l:List (Nat×TypeId×DataW Unit)) (o:Nat) (vs:List Value),
  (∀ x∈l,∀ v,rec x.2.1 x.2.2=some v->(cs.drop x.1).take (P.cellsOf x.2.1)=v)->Cz P rec o l=some vs->(cs.drop o).take vs.length=vs:=by
 intro l
 induction l with
 |nil=>intro o vs _ h;cases h;simp
 |cons x l ih=>
  obtain ⟨off,t,d⟩:=x;intro o vs hx h;unfold Cz at h;split at h
  .rename_i e
   subst e;split at h
   .rename_i v hv
    split at h
    .rename_i hl
     split at h
     .rename_i rs hr
      cases h;have h1:=hx _ (List.mem_cons_self ..) v hv;have h2:=ih (off+v.length) rs (fun y hy=>hx y (zan _ hy)) hr;simp only at h1;rw [←hl] at h1;rw [zaf,List.take_add,h1,zak,h2]
     .cases h
    .cases h
   .cases h
  .cases h
theorem EY {w:World} {base:Nat} {sp:Nat->Bool} {held:Bool}:∀ (f:Nat) (t:TypeId) (d:DataW Unit) (vs cs:List Value) (fuel:Nat) (p:List MemPlace),
  Dl P f t d=some vs->DataW.trod (fun _=>()) P w base sp held fuel t cs=some (d,p)->cs=vs:=by
 intro f
 induction f with
 |zero=>intro t d vs cs fuel p h;cases h
 |succ f ih=>
  intro t d vs cs fuel p h ht;unfold Dl at h;split at h
  .rename_i k k' n hu
   split at h
   .rename_i e;subst e;cases h
    obtain ⟨m,h1,h2,_⟩:=DataW.trod_int hu ht
    grind
   .cases h
  .rename_i b hu
   cases h;obtain ⟨m,h1,h2⟩:=DataW.trod_bool hu ht
   grind
  .rename_i s hu
   cases h;obtain ⟨m,h1,h2,_⟩:=DataW.trod_string hu ht;cases h2;exact h1
  .rename_i n e ds hu
   split at h
   .rename_i hn
    split at h
    .rename_i vs' hf
     split at h
     .rename_i hl
      cases h;obtain ⟨xs,m,_,h2,h3,h4,h5⟩:=DataW.trod_array hu ht;have hds:ds=xs.map (·.1):=by cases h2;rfl
      have:=vx (P:=P) (cs:=cs) _ 0 vs (by
       intro x hx v hv;obtain ⟨⟨y,i⟩,hy,rfl⟩:=List.mem_map.1 hx;have hy':=List.mem_zipIdx_iff_getElem?.1 hy;simp only at hv hy' ⊢;have hi:i<n:=by
        rcases Nat.lt_or_ge i n with a |a
        .exact a
        .rw [List.getElem?_eq_none (by omega)] at hy';cases hy'
       have h6:=h5 i hi;rw [hds,List.getElem?_map] at hy';obtain ⟨z,hz,rfl⟩:=Option.map_eq_some_iff.1 hy';rw [hz] at h6;exact ih _ _ _ _ _ _ hv h6) hf
      grind
     .cases h
    .cases h
   .cases h
  .rename_i fs ds hu
   split at h
   .rename_i hn
    split at h
    .rename_i vs' hf
     split at h
     .rename_i hl
      cases h;obtain ⟨xs,m,_,h2,h3,h4,h5⟩:=DataW.trod_struct hu ht;have hds:ds=xs.map (·.1):=by cases h2;rfl
      have:=vx (P:=P) (cs:=cs) _ 0 vs (by
       intro x hx v hv;obtain ⟨⟨fd,y⟩,hy,rfl⟩:=List.mem_map.1 hx;obtain ⟨i,hi⟩:=List.mem_iff_getElem?.1 hy;simp only at hv ⊢;rw [List.getElem?_zip_eq_some] at hi;obtain ⟨hi1,hi2⟩:=hi;simp only at hi1 hi2;have h6:=h5 i fd (by simpa using hi1);rw [hds,List.getElem?_map] at hi2;obtain ⟨z,hz,rfl⟩:=Option.map_eq_some_iff.1 hi2;rw [hz] at h6;exact ih _ _ _ _ _ _ hv h6) hf
      grind
     .cases h
    .cases h
   .cases h
  .cases h
abbrev GV:=Nat×TypeId×List Value
def qR:List GV->Tr bN
 | []=> .nil
 |x::l=>(qR l).put (kx x.1) (some (.cells x.2.2 x.2.1 0 (Nat.blt x.1 bI) false))
def bp (l:List GV):IH:=⟨qR l,ep⟩
def Holds (w:World) (x:GV):Prop:=∃ cs f,w.heap[x.1]? =some (.cells cs x.2.1 f)/\x.2.2.length=cs.size/\∀ (i:Nat) (v:Value),x.2.2[i]? =some v->cs[i]? =some v
theorem Ek {l:List GV} {b:Nat} {o:bN} (h:(qR l).get (kx b)=some o):∃ x∈l,x.1=b/\o= .cells x.2.2 x.2.1 0 (Nat.blt x.1 bI) false:=by
 induction l with
 |nil=>cases h
 |cons x l ih=>
  unfold qR at h;rw [Tr.ag,xB] at h
  grind
end Go.Iv
