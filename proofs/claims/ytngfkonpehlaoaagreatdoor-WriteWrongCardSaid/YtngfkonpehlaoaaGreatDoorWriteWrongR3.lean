/- WriteWrong, run by the evaluator at some inputs. -/
import Derived.Test.YtngfkonpehlaoaaGreatDoorWriteWrongG
namespace Go.Proofs.YtngfkonpehlaoaaGreatDoor.WriteWrong
open Go Go.Iv
theorem run18 (E : Nat → TypeId) : endsTrue ((evF Tryz.prog hint (trueSpec 4) 200).call 3 [.int .i64 18] (startH (mkG gl E))) = true := by kernel_rfl
theorem run19 (E : Nat → TypeId) : endsTrue ((evF Tryz.prog hint (trueSpec 4) 200).call 3 [.int .i64 19] (startH (mkG gl E))) = true := by kernel_rfl
theorem run20 (E : Nat → TypeId) : endsTrue ((evF Tryz.prog hint (trueSpec 4) 200).call 3 [.int .i64 20] (startH (mkG gl E))) = true := by kernel_rfl
theorem big (E : Nat → TypeId) (k : Nat) : endsTrue ((evF Tryz.prog hint (trueSpec 4) 200).call 3 [.int .i64 (Int.ofNat (k + 21))] (startH (mkG gl E))) = true := by kernel_rfl
theorem low (E : Nat → TypeId) (k : Nat) : endsTrue ((evF Tryz.prog hint (trueSpec 4) 200).call 3 [.int .i64 (Int.negSucc k)] (startH (mkG gl E))) = true := by kernel_rfl
end Go.Proofs.YtngfkonpehlaoaaGreatDoor.WriteWrong
