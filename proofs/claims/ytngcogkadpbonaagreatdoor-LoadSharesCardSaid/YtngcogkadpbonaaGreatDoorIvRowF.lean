/- A row's runs, by the fast evaluator. -/
import Derived.Test.YtngcogkadpbonaaGreatDoorIvRow
import Derived.Test.YtngcogkadpbonaaGreatDoorIvFast
set_option linter.unusedSimpArgs false
set_option linter.unusedVariables false
namespace Go.Iv
open Go Go.RowKit Go.WideShapes Go.ChangeShapes
variable {P:Program}
theorem JC {hint:Hint} {spec:Spec} (hm:P.follows .mixedOrders=true) (hng:dd P=true) (hsp:ab P spec) {n fuel:Nat} {f:FuncId} {args:Array Value} {w:World} {laid:List (String×DataW Unit)} {gl:List (Nat×List Value)}
  (hn:(laid.filter fun x=>x.2.handleName?.isSome)= []) (hl:laidMetH P laid w) (hg:∀ x∈gl,x∈fm P fuel laid) (ha:args.toList.all aJ=true)
  (h:∀ E:Nat->TypeId,au ((aj P hint spec n).call f args.toList (aw (bf gl E)))=true):
  Calls P f args w fun e w'=>e= .returned (.bool true)/\Below w.heap.size w w':=by
 obtain ⟨ps,hps⟩:=yE hn hl;refine xe hng (jE hm hng) hsp (fun x hx=>?_) ha (by rw [←ss];exact h (elemAt w));obtain ⟨y,hy,rfl⟩:=List.mem_map.1 hx;exact h9 (f:=fuel) laid ps hps _ (List.mem_map.2 ⟨y,hg y hy,rfl⟩)
theorem mm {hint:Hint} (hm:P.follows .mixedOrders=true) (hng:dd P=true) {n:Nat} {f0:FuncId} (hb:((P.funcs[f0]?).bind (·.body)).isSome=true) (h:au ((aj P hint af n).call f0 [] (aw []))=true):ab P (ai f0):=by
 intro f args H e H' hs;unfold ai at hs;cases hf:Nat.beq f f0 with
 |false=>rw [hf] at hs;cases hs
 |true=>
  have:=Nat.eq_of_beq_eq_true hf;subst this;rw [hf] at hs;cases args with
  |cons a l=>cases hs
  |nil=>
   cases hs;refine ⟨?_,?_⟩
   ·cases hfn:P.funcs[f]? with
    |none=>rw [hfn] at hb;cases hb
    |some fn=>
     rw [hfn] at hb;simp only [Option.bind_some] at hb;cases hc:fn.body with
     |none=>rw [hc] at hb;cases hb
     |some c=>exact ⟨fn,c,rfl,hc⟩
   ·intro Γ w args' hR ha
    rw [ss] at h;cases hc:(ev P hint af n).call f [] (aw []) with
    |none=>rw [hc] at h;cases h
    |some p=>
     obtain ⟨e,H1⟩:=p;rw [hc] at h;unfold au at h;split at h
     ·rename_i heq
      cases heq;have ha0:args'=#[]:=by
       obtain ⟨l⟩:=args';cases ha;rfl
      subst ha0;have hr0:Rh fE (aw []) w:=oA (l:= []) (fun x hx=>by cases hx);have:=(gG hng (jE hm hng) (aa P) n).1.call hc hr0 (args':=#[]) .nil;refine this.mono ?_;rintro e1 w1 ⟨Γ1,he,_,hE⟩;have noimg:∀ b,¬ iu fE (aw []) b:=by
       rintro b ⟨i,o,_,hi,_⟩;rw [IH.get_eq] at hi;cases hi
      have cT:∀ b,b<w.heap.size->w1.heap[b]? =w.heap[b]? :=fun b hb=>hE.cT b hb (noimg b)
      cases he with
      |returned hv=>
       rw [hv.iN];refine ⟨Γ,.returned (.bool true),⟨hR.aG,hR.ro,hR.cM,hR.live,hR.inj,fun b o hb=>(hR.obj b o hb).mono (.refl Γ) hE.same (hR.live b o hb) (cT _ (hR.lt hb))⟩,?_⟩;exact ⟨Nat.le_refl _,fun _ _=>rfl,fun i=>⟨.inl,fun x=>x.elim id fun x=>by omega⟩,hE.size,hE.os,hE.tape,hE.output,hE.same,fun b hb _=>cT b hb,fun _ _ x=>x,fun _ _ o x=>⟨o,x⟩⟩
     ·cases h
end Go.Iv
