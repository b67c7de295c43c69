/- A row's runs, by the fast evaluator. -/
import Derived.Test.YtdelfjdjenlaiaaGreatDoorIvRow
import Derived.Test.YtdelfjdjenlaiaaGreatDoorIvFast
set_option linter.unusedSimpArgs false
set_option linter.unusedVariables false
namespace Go.Iv
open Go Go.RowKit Go.WideShapes Go.ChangeShapes
variable {P:Program}
theorem GW {hint:Hint} (hm:P.follows .mixedOrders=true) (hng:jE P=true) {n:Nat} {f0:FuncId} (hb:((P.funcs[f0]?).bind (·.body)).isSome=true) (h:xX ((Xp P hint Dm n).call f0 [] (bn []))=true):jB P (jU f0):=by
 intro f args H e H' hs;unfold jU at hs;cases hf:Nat.beq f f0 with
 |false=>rw [hf] at hs;cases hs
 |true=>
  have:=Nat.eq_of_beq_eq_true hf;subst this;rw [hf] at hs;cases args with
  |cons a l=>cases hs
  |nil=>
   cases hs;refine ⟨?_,?_⟩
   ·cases hfn:P.funcs[f]? with
    |none=>rw [hfn] at hb;cases hb
    |some fn=>
     rw [hfn] at hb;simp only [zaa] at hb;cases hc:fn.body with
     |none=>rw [hc] at hb;cases hb
     |some c=>exact ⟨fn,c,rfl,hc⟩
   ·intro Γ w args' hR ha
    rw [VG] at h;cases hc:(ev P hint Dm n).call f [] (bn []) with
    |none=>rw [hc] at h;cases h
    |some p=>
     obtain ⟨e,H1⟩:=p;rw [hc] at h;unfold xX at h;split at h
     ·rename_i heq
      cases heq;have ha0:args'=#[]:=by
       obtain ⟨l⟩:=args';cases ha;rfl
      subst ha0;have hr0:Rh yB (bn []) w:=Sp (l:= []) (fun x hx=>by cases hx);have:=(Et hng (Ln hm hng) (MD P) n).1.call hc hr0 (args':=#[]) .nil;refine this.mono ?_;rintro e1 w1 ⟨Γ1,he,_,hE⟩;have noimg:∀ b,¬ DA yB (bn []) b:=by
       rintro b ⟨i,o,_,hi,_⟩;rw [IH.get_eq] at hi;cases hi
      have cI:∀ b,b<w.heap.size->w1.heap[b]? =w.heap[b]? :=fun b hb=>hE.cI b hb (noimg b)
      cases he with
      |returned hv=>
       rw [hv.By];refine ⟨Γ,.returned (.bool true),⟨hR.bj,hR.ro,hR.cE,hR.live,hR.inj,fun b o hb=>(hR.obj b o hb).mono (.refl Γ) hE.same (hR.live b o hb) (cI _ (hR.lt hb))⟩,?_⟩;exact ⟨zai _,fun _ _=>rfl,fun i=>⟨.inl,fun x=>x.elim id fun x=>by omega⟩,hE.size,hE.os,hE.tape,hE.output,hE.same,fun b hb _=>cI b hb,fun _ _ x=>x,fun _ _ o x=>⟨o,x⟩⟩
     ·cases h
end Go.Iv
