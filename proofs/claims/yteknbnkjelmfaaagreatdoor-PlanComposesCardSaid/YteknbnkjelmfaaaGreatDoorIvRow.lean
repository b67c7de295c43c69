/- From what a row lists to the evaluator's first heap; the row's last step where the call has changed nothing that was there. -/
import Derived.Test.YteknbnkjelmfaaaGreatDoorIvDrawX
import Derived.ChangeSame
import Derived.LaidMore
set_option linter.unusedSimpArgs false
set_option linter.unusedVariables false
namespace Go.Iv
open Go Go.RowKit Go.WideShapes Go.ChangeShapes
variable {P:Program}
def qb (P:Program) (f:Nat):List (String×DataW Unit)->List (Nat×List Value)
 | []=> []
 |(n,d)::r=>match P.globalNamed n with
  |some g=>match (P.globals[g]?).map (·.type) with
   |some t=>match Dl P f t d with
    |some vs=>if decide (g<bI) &&vs.all aU then (g,vs)::qb P f r else qb P f r
    |none=>qb P f r
   |none=>qb P f r
  |none=>qb P f r
def Ss (gl:List (Nat×List Value)) (E:Nat->TypeId):List GV:=gl.map fun x=>(x.1,E x.1,x.2)
def elemAt (w:World) (g:Nat):TypeId:=
 match w.heap[g]? with
 |some (.cells _ e _)=>e
 |_=>0
theorem wy {w:World} {f:Nat}:∀ (laid:List (String×DataW Unit)) (ps:List MemPlace),DataW.LaidVars P w laid ps->
  ∀ x∈Ss (qb P f laid) (elemAt w),x.1<bI/\x.2.2.all aU=true/\Holds w x:=by
 intro laid
 induction laid with
 |nil=>intro ps _ x hx;cases hx
 |cons y r ih=>
  intro ps hl x hx;obtain ⟨n,d⟩:=y;obtain ⟨g,t,cs,fuel,p,q,hg,ht,hv,hd,hr, -⟩:=hl;have rest:=ih q hr;unfold qb at hx;rw [hg] at hx;simp only [ht] at hx;split at hx
  .rename_i vs hf
   split at hx
   .rename_i hc
    simp only [zae,decide_eq_true_eq] at hc;simp only [Ss,List.map_cons,List.mem_cons] at hx;rcases hx with rfl |hx
    .have hcs:=EY _ _ _ _ _ _ _ hf hd
     refine ⟨hc.1,hc.2,?_⟩;unfold World.var? at hv;rw [hg] at hv;simp only [zaa] at hv;split at hv
     .rename_i c e fz hb
      cases hv;refine ⟨cs,fz,?_,?_,fun i v hi=>?_⟩
      .simp only [elemAt,hb]
      .simp [←hcs]
      .simp only [←hcs] at hi;simpa using hi
     .cases hv
    .exact rest x hx
   .exact rest x hx
  grind
theorem Hv {laid:List (String×DataW Unit)} (h:(laid.filter fun x=>x.2.handleName?.isSome)= []) {w:World} (hl:laidMetH P laid w):∃ ps,DataW.LaidVars P w laid ps:=by
 unfold laidMetH at hl;rw [h] at hl;obtain ⟨ps,h1, -⟩:=hl
 grind
theorem FR {H:Type} {enc:TypeId×Value->H} {f:Func} {s:ChangeSpec} {apart fresh handsOn again:Bool} {W W':World} {args:Array Value} {v:Value} {ds gs:List (DataW H)} {before pa pv:List MemPlace}
  (hW:DataW.Whole enc P f.params.toList s.vars apart W args.toList ds gs before)
  (hres:∀ (b:Nat) (sp:Nat->Bool) (hd:Bool),DataW.TrodAll enc P W' b sp hd f.resultTypes.toList (v.resultList f.resultTypes.size) (s.fn H (ds++gs)).results [])
  (hargs:∀ sp:Nat->Bool,(∀ p∈before,sp p.block=true)->DataW.TrodAll enc P W' 0 sp true f.params.toList args.toList (s.fn H (ds++gs)).args pa)
  (hvars:∀ sp:Nat->Bool,(∀ p∈before,sp p.block=true)->DataW.TrodVars enc P W' sp s.vars (s.fn H (ds++gs)).vars pv)
  (hps:before=pa++pv) (hb:Below W.heap.size W W')
  (hok:∀ (j:Nat) (t:TypeId) (r:Value),f.resultTypes[j]? =some t->(v.resultList f.resultTypes.size)[j]? =some r->Value.okWide P W' .any 0 t r):
  s.post enc P f apart fresh handsOn again W args v W':=by
 have lt:∀ p∈before,p.block<W.heap.size:=fun p hp=>hW.lt p hp
 have sp0:∀ p∈before,(fun b=>decide (b<W.heap.size)) p.block=true:=fun p hp=>decide_eq_true (lt p hp)
 have cE:W.keptBut W' (· ∈before):=hb.frame (· ∈before);have tell:∀ p,p∈pa++pv↔p∈before:=fun p=>by rw [hps]
 have Du:=trodAll_append (hargs (fun _=>true) (fun _ _=>rfl)) (hres 0 (fun _=>true) true);refine ⟨ds,gs,before,[],pa,pv,hW,hres _ _ _,hargs _ sp0,hvars _ sp0,World.keptBut_mono (fun p hp=>⟨hp,.inr (List.mem_append.1 ((tell p).2 hp))⟩) cE,fun _=>?_⟩;refine ⟨hok,_,_,([]++pa)++pv,⟨[]++pa,pv,Du,hvars _ (fun _ _=>rfl),rfl,?_,?_⟩,?_⟩
 .intro b off hp
  have hin:=(tell (.cell b off)).1 (by simpa using hp);rw [hb.frozen (lt _ hin)];obtain ⟨_,_,_,_,_,hz, -⟩:=hW;exact hz b off hin
 .intro ha
  obtain ⟨_,_,_,_,_, -,hn⟩:=hW;have:=hn ha;rw [hps] at this;simpa using this
 grind
end Go.Iv
