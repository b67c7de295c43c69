/- LoadDeep returns true for all arguments, and leaves its arguments as they were. -/
import Derived.Test.YtdelfjdjenlaiaaGreatDoorLoadDeepW
import Derived.Test.YtdelfjdjenlaiaaGreatDoorLoadDeepK0
import Derived.Test.YtdelfjdjenlaiaaGreatDoorLoadDeepK1
import Derived.Test.YtdelfjdjenlaiaaGreatDoorLoadDeepK2
import Derived.Test.YtdelfjdjenlaiaaGreatDoorTie
import Derived.Test.YtdelfjdjenlaiaaGreatDoorCards
import Derived.ProofKit
import Derived.SevenTiedAt
import Derived.Stop.Joined
import Derived.ChangeMaps5
set_option linter.unusedSimpArgs false
set_option linter.unusedVariables false
namespace Go.Proofs.YtdelfjdjenlaiaaGreatDoor.LoadDeep
open Go Go.ChangeShapes Go.WideShapes Go.ChangeAt Go.RowKit
theorem card_holds:Rows.LoadDeepCardSaid:=
 Claim7.holds_tied_plain_at .later [] [.data, .data, .data, .data, .sentinel, .sentinel, .pinned] true (true, "b2d5bc82169550df944e36320f257ded7a62a630183429543ae80a4d26c4a1db") true holds (fun _ h => by cases h) cW (fun _ h => by cases h) loadDeep_row_tie rfl ⟨rfl, rfl⟩ cM rfl
  (fun f fn hf hfn=>by
   obtain rfl:f=3:=Option.some.inj (cF.symm.trans hf) |>.symm
   obtain rfl:fn=Tryz.f3:=(Option.some.inj (Tryz.func3.symm.trans hfn)).symm;exact ⟨cL,fun j t ht=>by
    rw [Tryz.params3] at ht;have hm:t∈ [3,3,4]:=by simpa using Array.mem_of_getElem? ht
    exact (show Tryz.pinned.checked.prog.wantsStandIn t=false by simpa using List.all_eq_true.1 cS t hm)⟩)
  cG
#print axioms card_holds
end Go.Proofs.YtdelfjdjenlaiaaGreatDoor.LoadDeep
