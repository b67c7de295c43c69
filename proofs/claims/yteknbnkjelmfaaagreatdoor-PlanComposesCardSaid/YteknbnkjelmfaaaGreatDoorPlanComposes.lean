/- PlanComposes returns true for all arguments, and leaves its arguments as they were. -/
import Derived.Test.YteknbnkjelmfaaaGreatDoorPlanComposesW
import Derived.Test.YteknbnkjelmfaaaGreatDoorPlanComposesK0
import Derived.Test.YteknbnkjelmfaaaGreatDoorPlanComposesK1
import Derived.Test.YteknbnkjelmfaaaGreatDoorPlanComposesK2
import Derived.Test.YteknbnkjelmfaaaGreatDoorTie
import Derived.Test.YteknbnkjelmfaaaGreatDoorCards
import Derived.ProofKit
import Derived.SevenTiedAt
import Derived.Stop.Joined
import Derived.ChangeMaps5
set_option linter.unusedSimpArgs false
set_option linter.unusedVariables false
namespace Go.Proofs.YteknbnkjelmfaaaGreatDoor.PlanComposes
open Go Go.ChangeShapes Go.WideShapes Go.ChangeAt Go.RowKit
theorem card_holds:Rows.PlanComposesCardSaid:=
 Claim7.holds_tied_plain_at .later [] [.data, .data, .data, .data, .sentinel, .sentinel, .pinned] true (true, "7eb32c8a8b991b4771d3dffb685e5e25451cee1c0ef78ba7deb29f19cab684fd") true holds (fun _ h => by cases h) cW (fun _ h => by cases h) planComposes_row_tie rfl ⟨rfl, rfl⟩ cM rfl
  (fun f fn hf hfn=>by
   obtain rfl:f=4:=Option.some.inj (cF.symm.trans hf) |>.symm
   obtain rfl:fn=Tryz.f4:=(Option.some.inj (Tryz.func4.symm.trans hfn)).symm;exact ⟨cL,fun j t ht=>by
    rw [Tryz.params4] at ht;have hm:t∈ [25,27]:=by simpa using Array.mem_of_getElem? ht
    exact (show Tryz.pinned.checked.prog.wantsStandIn t=false by simpa using List.all_eq_true.1 cS t hm)⟩)
  cG
#print axioms card_holds
end Go.Proofs.YteknbnkjelmfaaaGreatDoor.PlanComposes
