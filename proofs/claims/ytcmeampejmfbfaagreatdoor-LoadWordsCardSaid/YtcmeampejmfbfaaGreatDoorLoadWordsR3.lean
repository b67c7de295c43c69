/- LoadWords, run by the evaluator at some inputs. -/
import Derived.Test.YtcmeampejmfbfaaGreatDoorLoadWordsG
namespace Go.Proofs.YtcmeampejmfbfaaGreatDoor.LoadWords
open Go Go.Iv
theorem run12 (E : Nat → TypeId) : endsTrue ((evF Tryz.prog hint (trueSpec 4) 300).call 3 [.int .i64 (Int.ofNat 12)] (startH (mkG gl E))) = true := by kernel_rfl
theorem run13 (E : Nat → TypeId) : endsTrue ((evF Tryz.prog hint (trueSpec 4) 300).call 3 [.int .i64 (Int.ofNat 13)] (startH (mkG gl E))) = true := by kernel_rfl
theorem run14 (E : Nat → TypeId) : endsTrue ((evF Tryz.prog hint (trueSpec 4) 300).call 3 [.int .i64 (Int.ofNat 14)] (startH (mkG gl E))) = true := by kernel_rfl
theorem run15 (E : Nat → TypeId) : endsTrue ((evF Tryz.prog hint (trueSpec 4) 300).call 3 [.int .i64 (Int.ofNat 15)] (startH (mkG gl E))) = true := by kernel_rfl
theorem big (E : Nat → TypeId) (k : Nat) : endsTrue ((evF Tryz.prog hint (trueSpec 4) 300).call 3 [.int .i64 (Int.ofNat (k + 16))] (startH (mkG gl E))) = true := by kernel_rfl
theorem low (E : Nat → TypeId) (k : Nat) : endsTrue ((evF Tryz.prog hint (trueSpec 4) 300).call 3 [.int .i64 (Int.negSucc k)] (startH (mkG gl E))) = true := by kernel_rfl
end Go.Proofs.YtcmeampejmfbfaaGreatDoor.LoadWords
