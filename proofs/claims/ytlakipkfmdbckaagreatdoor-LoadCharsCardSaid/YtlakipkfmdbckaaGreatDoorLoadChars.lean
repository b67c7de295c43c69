/- LoadChars returns true for all arguments, and leaves its arguments as they were. -/
import Derived.Test.YtlakipkfmdbckaaGreatDoorLoadCharsW
import Derived.Test.YtlakipkfmdbckaaGreatDoorLoadCharsK0
import Derived.Test.YtlakipkfmdbckaaGreatDoorLoadCharsK1
import Derived.Test.YtlakipkfmdbckaaGreatDoorLoadCharsK2
import Derived.Test.YtlakipkfmdbckaaGreatDoorTie
import Derived.Test.YtlakipkfmdbckaaGreatDoorCards
import Derived.ProofKit
import Derived.SevenTiedAt
import Derived.Stop.Joined
import Derived.ChangeMaps5
set_option linter.unusedSimpArgs false
set_option linter.unusedVariables false
namespace Go.Proofs.YtlakipkfmdbckaaGreatDoor.LoadChars
open Go Go.ChangeShapes Go.WideShapes Go.ChangeAt Go.RowKit

theorem card_holds : Rows.LoadCharsCardSaid :=
  Claim7.holds_tied_plain_at .later [] [.data, .data, .data, .data, .sentinel, .sentinel, .pinned] true (true, "16642341f6b155e48c6d0d5077be7fae6ae7a27908a122e85aafbd84a7289965") true holds (fun _ h => by cases h) cW (fun _ h => by cases h) loadChars_row_tie rfl ⟨rfl, rfl⟩ cM rfl
    (fun f fn hf hfn => by
      obtain rfl : f = 3 := Option.some.inj (cF.symm.trans hf) |>.symm
      obtain rfl : fn = Tryz.f3 := (Option.some.inj (Tryz.func3.symm.trans hfn)).symm
      exact ⟨cL, fun j t ht => by
        rw [Tryz.params3] at ht
        have hm : t ∈ [9, 9, 3] := by simpa using Array.mem_of_getElem? ht
        exact (show Tryz.pinned.checked.prog.wantsStandIn t = false by simpa using List.all_eq_true.1 cS t hm)⟩)
    cG
#print axioms card_holds
end Go.Proofs.YtlakipkfmdbckaaGreatDoor.LoadChars
