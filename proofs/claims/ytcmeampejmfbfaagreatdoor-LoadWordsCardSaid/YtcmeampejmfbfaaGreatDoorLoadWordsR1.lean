/- LoadWords, run by the evaluator at some inputs. -/
import Derived.Test.YtcmeampejmfbfaaGreatDoorLoadWordsG
namespace Go.Proofs.YtcmeampejmfbfaaGreatDoor.LoadWords
open Go Go.Iv
theorem run4 (E : Nat → TypeId) : endsTrue ((evF Tryz.prog hint (trueSpec 4) 300).call 3 [.int .i64 (Int.ofNat 4)] (startH (mkG gl E))) = true := by kernel_rfl
theorem run5 (E : Nat → TypeId) : endsTrue ((evF Tryz.prog hint (trueSpec 4) 300).call 3 [.int .i64 (Int.ofNat 5)] (startH (mkG gl E))) = true := by kernel_rfl
theorem run6 (E : Nat → TypeId) : endsTrue ((evF Tryz.prog hint (trueSpec 4) 300).call 3 [.int .i64 (Int.ofNat 6)] (startH (mkG gl E))) = true := by kernel_rfl
theorem run7 (E : Nat → TypeId) : endsTrue ((evF Tryz.prog hint (trueSpec 4) 300).call 3 [.int .i64 (Int.ofNat 7)] (startH (mkG gl E))) = true := by kernel_rfl
end Go.Proofs.YtcmeampejmfbfaaGreatDoor.LoadWords
