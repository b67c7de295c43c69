/- EmitWrong returns true for all arguments, and leaves its arguments as they were. -/
import Derived.Test.YtjfnjfneacfghaaGreatDoorEmitWrongW
import Derived.Test.YtjfnjfneacfghaaGreatDoorEmitWrongK0
import Derived.Test.YtjfnjfneacfghaaGreatDoorEmitWrongK1
import Derived.Test.YtjfnjfneacfghaaGreatDoorEmitWrongK2
import Derived.Test.YtjfnjfneacfghaaGreatDoorTie
import Derived.Test.YtjfnjfneacfghaaGreatDoorCards
import Derived.ProofKit
import Derived.SevenTiedAt
import Derived.Stop.Joined
import Derived.ChangeMaps5
set_option linter.unusedSimpArgs false
set_option linter.unusedVariables false
namespace Go.Proofs.YtjfnjfneacfghaaGreatDoor.EmitWrong
open Go Go.ChangeShapes Go.WideShapes Go.ChangeAt Go.RowKit

theorem card_holds : Rows.EmitWrongCardSaid :=
  Claim7.holds_tied_plain_at .later [] [.data, .data, .data, .data, .sentinel, .sentinel, .pinned] true (true, "e9dbff4a1b67793097ddaa69985cd8f13c4bdd5f9d10a064bab96763d43f7573") true holds (fun _ h => by cases h) cW (fun _ h => by cases h) emitWrong_row_tie rfl ⟨rfl, rfl⟩ cM rfl
    (fun f fn hf hfn => by
      obtain rfl : f = 3 := Option.some.inj (cF.symm.trans hf) |>.symm
      obtain rfl : fn = Tryz.f3 := (Option.some.inj (Tryz.func3.symm.trans hfn)).symm
      exact ⟨cL, fun j t ht => by
        rw [Tryz.params3] at ht
        have hm : t ∈ [25, 27] := by simpa using Array.mem_of_getElem? ht
        exact (show Tryz.pinned.checked.prog.wantsStandIn t = false by simpa using List.all_eq_true.1 cS t hm)⟩)
    cG
#print axioms card_holds
end Go.Proofs.YtjfnjfneacfghaaGreatDoor.EmitWrong
