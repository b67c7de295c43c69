/- The same evaluator in a form that the kernel runs fast (the first part): tables, lists. -/
import Derived.Test.YteknbnkjelmfaaaGreatDoorGvHeap
set_option linter.unusedSimpArgs false
set_option linter.unusedVariables false
namespace Go.Iv
open Go
theorem tN (vs:List Value):∀ (cs:List Value) (off:Nat),(aA cs off vs).length=cs.length:=by
 induction vs with
 |nil=>intro cs off;rfl
 |cons v vs ih=>intro cs off;show (aA (cs.set off v) (off+1) vs).length=_;rw [ih];simp
theorem zC (off:Nat) (vs:List Value):∀ (k:Nat) (cells:Array Value),((vs.zipIdx k).foldl (fun (cs:Array Value) (x:Value×Nat)=>cs.setIfInBounds (off+x.2) x.1) cells).toList=aA cells.toList (off+k) vs:=by
 induction vs with
 |nil=>intro k cells;rfl
 |cons v vs ih=>
  intro k cells;simp only [List.zipIdx_cons,List.foldl_cons];rw [ih (k+1)];simp only [aA,Array.toList_setIfInBounds];rfl
end Go.Iv
