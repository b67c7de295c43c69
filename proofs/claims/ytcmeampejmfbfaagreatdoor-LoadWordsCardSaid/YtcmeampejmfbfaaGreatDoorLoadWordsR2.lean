/- LoadWords, run by the evaluator at some inputs. -/
import Derived.Test.YtcmeampejmfbfaaGreatDoorLoadWordsG
namespace Go.Proofs.YtcmeampejmfbfaaGreatDoor.LoadWords
open Go Go.Iv
theorem run8 (E : Nat → TypeId) : endsTrue ((evF Tryz.prog hint (trueSpec 4) 300).call 3 [.int .i64 (Int.ofNat 8)] (startH (mkG gl E))) = true := by kernel_rfl
theorem run9 (E : Nat → TypeId) : endsTrue ((evF Tryz.prog hint (trueSpec 4) 300).call 3 [.int .i64 (Int.ofNat 9)] (startH (mkG gl E))) = true := by kernel_rfl
theorem run10 (E : Nat → TypeId) : endsTrue ((evF Tryz.prog hint (trueSpec 4) 300).call 3 [.int .i64 (Int.ofNat 10)] (startH (mkG gl E))) = true := by kernel_rfl
theorem run11 (E : Nat → TypeId) : endsTrue ((evF Tryz.prog hint (trueSpec 4) 300).call 3 [.int .i64 (Int.ofNat 11)] (startH (mkG gl E))) = true := by kernel_rfl
end Go.Proofs.YtcmeampejmfbfaaGreatDoor.LoadWords
