/- SameTells returns true for all arguments, and leaves its arguments as they were. -/
import Derived.Test.YtnddpppljnjmcaaGreatDoorSameTellsW
import Derived.Test.YtnddpppljnjmcaaGreatDoorSameTellsK0
import Derived.Test.YtnddpppljnjmcaaGreatDoorSameTellsK1
import Derived.Test.YtnddpppljnjmcaaGreatDoorSameTellsK2
import Derived.Test.YtnddpppljnjmcaaGreatDoorTie
import Derived.Test.YtnddpppljnjmcaaGreatDoorCards
import Derived.ProofKit
import Derived.SevenTiedAt
import Derived.Stop.Joined
import Derived.ChangeMaps5
set_option linter.unusedSimpArgs false
set_option linter.unusedVariables false
namespace Go.Proofs.YtnddpppljnjmcaaGreatDoor.SameTells
open Go Go.ChangeShapes Go.WideShapes Go.ChangeAt Go.RowKit
theorem card_holds:Rows.SameTellsCardSaid:=
 Claim7.holds_tied_plain_at .later [] [.data, .data, .data, .data, .sentinel, .sentinel, .pinned] true (true, "395c1735d1f40614b60adc0b52107bacaa94cc9dd79c31152037534c2cd93bd4") true holds (fun _ h => by cases h) cW (fun _ h => by cases h) sameTells_row_tie rfl ⟨rfl, rfl⟩ cM rfl
  (fun f fn hf hfn=>by
   obtain rfl:f=6:=Option.some.inj (cF.symm.trans hf) |>.symm
   obtain rfl:fn=Tryz.f6:=(Option.some.inj (Tryz.func6.symm.trans hfn)).symm
   exact ⟨cL,fun j t ht=>by
    rw [Tryz.params6] at ht
    have hm:t∈ [25,3,3,40,40]:=by simpa using Array.mem_of_getElem? ht
    exact (show Tryz.pinned.checked.prog.wantsStandIn t=false by simpa using List.all_eq_true.1 cS t hm)⟩)
  cG
#print axioms card_holds
end Go.Proofs.YtnddpppljnjmcaaGreatDoor.SameTells
