/- LoadWords, run by the evaluator at some inputs. -/
import Derived.Test.YtcmeampejmfbfaaGreatDoorLoadWordsG
namespace Go.Proofs.YtcmeampejmfbfaaGreatDoor.LoadWords
open Go Go.Iv
theorem run0 (E : Nat → TypeId) : endsTrue ((evF Tryz.prog hint (trueSpec 4) 300).call 3 [.int .i64 (Int.ofNat 0)] (startH (mkG gl E))) = true := by kernel_rfl
theorem run1 (E : Nat → TypeId) : endsTrue ((evF Tryz.prog hint (trueSpec 4) 300).call 3 [.int .i64 (Int.ofNat 1)] (startH (mkG gl E))) = true := by kernel_rfl
theorem run2 (E : Nat → TypeId) : endsTrue ((evF Tryz.prog hint (trueSpec 4) 300).call 3 [.int .i64 (Int.ofNat 2)] (startH (mkG gl E))) = true := by kernel_rfl
theorem run3 (E : Nat → TypeId) : endsTrue ((evF Tryz.prog hint (trueSpec 4) 300).call 3 [.int .i64 (Int.ofNat 3)] (startH (mkG gl E))) = true := by kernel_rfl
end Go.Proofs.YtcmeampejmfbfaaGreatDoor.LoadWords
