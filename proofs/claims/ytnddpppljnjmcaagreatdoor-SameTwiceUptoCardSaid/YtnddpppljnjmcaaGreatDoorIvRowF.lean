/- A row's runs, by the fast evaluator. -/
import Derived.Test.YtnddpppljnjmcaaGreatDoorIvRow
import Derived.Test.YtnddpppljnjmcaaGreatDoorIvFast
set_option linter.unusedSimpArgs false
set_option linter.unusedVariables false
namespace Go.Iv
open Go Go.RowKit Go.WideShapes Go.ChangeShapes
variable {P:Program}
theorem trueSpec_ok {hint:Hint} (hm:P.follows .mixedOrders=true) (hng:noNG P=true) {n:Nat} {f0:FuncId} (hb:((P.funcs[f0]?).bind (·.body)).isSome=true) (h:endsTrue ((evF P hint noSpec n).call f0 [] (startH []))=true):SpecOK P (trueSpec f0):=by
 intro f args H e H' hs
 unfold trueSpec at hs
 cases hf:Nat.beq f f0 with
 |false=>rw [hf] at hs;cases hs
 |true=>
  have:=Nat.eq_of_beq_eq_true hf
  subst this
  rw [hf] at hs
  cases args with
  |cons a l=>cases hs
  |nil=>
   cases hs
   refine ⟨?_,?_⟩
   ·cases hfn:P.funcs[f]? with
    |none=>rw [hfn] at hb;cases hb
    |some fn=>
     rw [hfn] at hb
     simp only [Option.bind_some] at hb
     cases hc:fn.body with
     |none=>rw [hc] at hb;cases hb
     |some c=>exact ⟨fn,c,rfl,hc⟩
   ·intro Γ w args' hR ha
    rw [evF_eq] at h
    cases hc:(ev P hint noSpec n).call f [] (startH []) with
    |none=>rw [hc] at h;cases h
    |some p=>
     obtain ⟨e,H1⟩:=p
     rw [hc] at h
     unfold endsTrue at h
     split at h
     ·rename_i heq
      cases heq
      have ha0:args'=#[]:=by
       obtain ⟨l⟩:=args'
       cases ha;rfl
      subst ha0
      have hr0:Rh startG (startH []) w:=start_rh (l:= []) (fun x hx=>by cases hx)
      have:=(ev_sound hng (draw_ok hm hng) (noSpec_ok P) n).1.call hc hr0 (args':=#[]) .nil
      refine this.mono ?_
      rintro e1 w1 ⟨Γ1,he,_,hE⟩
      have noimg:∀ b,¬ Img startG (startH []) b:=by
       rintro b ⟨i,o,_,hi,_⟩
       rw [IH.get_eq] at hi;cases hi
      have keep:∀ b,b<w.heap.size→w1.heap[b]? =w.heap[b]? :=fun b hb=>hE.keep b hb (noimg b)
      cases he with
      |returned hv=>
       rw [hv.boolE]
       refine ⟨Γ,.returned (.bool true),⟨hR.dom,hR.ro,hR.glob,hR.live,hR.inj,fun b o hb=>(hR.obj b o hb).mono (.refl Γ) hE.same (hR.live b o hb) (keep _ (hR.lt hb))⟩,?_⟩
       exact ⟨Nat.le_refl _,fun _ _=>rfl,fun i=> ⟨.inl,fun x=>x.elim id fun x=>by omega⟩,hE.size,hE.os,hE.tape,hE.output,hE.same,fun b hb _=>keep b hb,fun _ _ x=>x,fun _ _ o x=> ⟨o,x⟩⟩
     ·cases h
end Go.Iv
