/- LoadStyles at 4. -/
import Derived.Test.YtnidajnmgfbieaaGreatDoorLoadStylesR4a
set_option linter.unusedSimpArgs false
set_option linter.unusedVariables false
namespace Go.Proofs.YtnidajnmgfbieaaGreatDoor.LoadStyles
open Go Go.Iv
theorem rZ (E:Nat->TypeId):aH ((bW Tryz.prog hint (bu (bu (au 4) qd.spec) p5.spec) 3000).call 3 [.int .i64 (Int.ofNat 4)] (aP (kh gl E)))=true:=by kernel_rfl
theorem pz:Shown (Int.ofNat 4):=⟨gl,(bu (bu (au 4) qd.spec) p5.spec),fun _ h=>h,(aE (aE bh pF) pe),rZ⟩
end Go.Proofs.YtnidajnmgfbieaaGreatDoor.LoadStyles
