/- LoadShares returns true for all integers, and leaves its arguments as they were. -/
import Derived.Test.YtngcogkadpbonaaGreatDoorLoadSharesW
import Derived.Test.YtngcogkadpbonaaGreatDoorLoadSharesK0
import Derived.Test.YtngcogkadpbonaaGreatDoorLoadSharesK1
import Derived.Test.YtngcogkadpbonaaGreatDoorLoadSharesK2
import Derived.Test.YtngcogkadpbonaaGreatDoorTie
import Derived.Test.YtngcogkadpbonaaGreatDoorCards
import Derived.ProofKit
import Derived.SevenTiedAt
import Derived.Stop.Joined
import Derived.ChangeMaps5
namespace Go.Proofs.YtngcogkadpbonaaGreatDoor.LoadShares
open Go Go.ChangeShapes Go.WideShapes Go.ChangeAt Go.RowKit

theorem card_holds : Rows.LoadSharesCardSaid :=
  Claim7.holds_tied_plain_at .later [] [.data, .data, .data, .data, .sentinel, .sentinel, .pinned] true (true, "d7ae7e67407d8d422a462baf8bffde94f3e5ff114ed1baae6d46d34fb254fb87") true holds (fun _ h => by cases h) cW (fun _ h => by cases h) loadShares_row_tie rfl ⟨rfl, rfl⟩ cM rfl
    (fun f fn hf hfn => by
      obtain rfl : f = 3 := Option.some.inj (cF.symm.trans hf) |>.symm
      obtain rfl : fn = Tryz.f3 := (Option.some.inj (Tryz.func3.symm.trans hfn)).symm
      exact ⟨cL, fun j t ht => by
        rw [Tryz.params3] at ht
        have hm : t ∈ [3, 3] := by simpa using Array.mem_of_getElem? ht
        exact (show Tryz.pinned.checked.prog.wantsStandIn t = false by simpa using List.all_eq_true.1 cS t hm)⟩)
    cG
#print axioms card_holds
end Go.Proofs.YtngcogkadpbonaaGreatDoor.LoadShares
