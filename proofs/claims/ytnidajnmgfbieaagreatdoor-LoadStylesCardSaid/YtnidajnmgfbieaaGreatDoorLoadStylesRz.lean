/- LoadStyles at all other inputs. -/
import Derived.Test.YtnidajnmgfbieaaGreatDoorLoadStylesG
set_option linter.unusedSimpArgs false
set_option linter.unusedVariables false
namespace Go.Proofs.YtnidajnmgfbieaaGreatDoor.LoadStyles
open Go Go.Iv
theorem sA (E:Nat->TypeId) (k:Nat):aH ((bW Tryz.prog hint (au 4) 3000).call 3 [.int .i64 (Int.ofNat (k+8))] (aP (kh [] E)))=true:=by kernel_rfl
theorem low (E:Nat->TypeId) (k:Nat):aH ((bW Tryz.prog hint (au 4) 3000).call 3 [.int .i64 (Int.negSucc k)] (aP (kh [] E)))=true:=by kernel_rfl
theorem oZ (k:Nat):Shown (Int.ofNat (k+8)):=⟨[],au 4,im,bh,fun E=>sA E k⟩
theorem oN (k:Nat):Shown (Int.negSucc k):=⟨[],au 4,im,bh,fun E=>low E k⟩
end Go.Proofs.YtnidajnmgfbieaaGreatDoor.LoadStyles
