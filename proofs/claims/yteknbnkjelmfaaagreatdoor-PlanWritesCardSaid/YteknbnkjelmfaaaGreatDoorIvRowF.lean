/- A row's runs, by the fast evaluator. -/
import Derived.Test.YteknbnkjelmfaaaGreatDoorIvRow
import Derived.Test.YteknbnkjelmfaaaGreatDoorIvFast
set_option linter.unusedSimpArgs false
set_option linter.unusedVariables false
namespace Go.Iv
open Go Go.RowKit Go.WideShapes Go.ChangeShapes
variable {P:Program}
theorem Eh {hint:Hint} (hm:P.follows .mixedOrders=true) (hng:jx P=true) {n:Nat} {f0:FuncId} (hb:((P.funcs[f0]?).bind (·.body)).isSome=true) (h:wF ((V2 P hint Dm n).call f0 [] (bf []))=true):jt P (j8 f0):=by
 intro f args H e H' hs;unfold j8 at hs;cases hf:Nat.beq f f0 with
 |false=>rw [hf] at hs;cases hs
 |true=>
  have:=Nat.eq_of_beq_eq_true hf;subst this;rw [hf] at hs;cases args with
  |cons a l=>cases hs
  |nil=>
   cases hs;refine ⟨?_,?_⟩
   ·cases hfn:P.funcs[f]? with
    |none=>rw [hfn] at hb;cases hb
    |some fn=>
     rw [hfn] at hb;simp only [zaa] at hb;cases hc:fn.body with
     |none=>rw [hc] at hb;cases hb
     |some c=>exact ⟨fn,c,rfl,hc⟩
   ·intro Γ w args' hR ha
    rw [UD] at h;cases hc:(ev P hint Dm n).call f [] (bf []) with
    |none=>rw [hc] at h;cases h
    |some p=>
     obtain ⟨e,H1⟩:=p;rw [hc] at h;unfold wF at h;split at h
     ·rename_i heq
      cases heq;have ha0:args'=#[]:=by
       obtain ⟨l⟩:=args';cases ha;rfl
      subst ha0;have hr0:Rh xa (bf []) w:=Ow (l:= []) (fun x hx=>by cases hx);have:=(GM hng (KK hm hng) (Mz P) n).1.call hc hr0 (args':=#[]) .nil;refine this.mono ?_;rintro e1 w1 ⟨Γ1,he,_,hE⟩;have noimg:∀ b,¬ D3 xa (bf []) b:=by
       rintro b ⟨i,o,_,hi,_⟩;rw [IH.get_eq] at hi;cases hi
      have cQ:∀ b,b<w.heap.size->w1.heap[b]? =w.heap[b]? :=fun b hb=>hE.cQ b hb (noimg b)
      cases he with
      |returned hv=>
       rw [hv.Bn];refine ⟨Γ,.returned (.bool true),⟨hR.bm,hR.ro,hR.cB,hR.live,hR.inj,fun b o hb=>(hR.obj b o hb).mono (.refl Γ) hE.same (hR.live b o hb) (cQ _ (hR.lt hb))⟩,?_⟩;exact ⟨zam _,fun _ _=>rfl,fun i=>⟨.inl,fun x=>x.elim id fun x=>by omega⟩,hE.size,hE.os,hE.tape,hE.output,hE.same,fun b hb _=>cQ b hb,fun _ _ x=>x,fun _ _ o x=>⟨o,x⟩⟩
     ·cases h
end Go.Iv
