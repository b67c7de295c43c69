/- WriteWrong, run by the evaluator at some inputs. -/
import Derived.Test.YtngfkonpehlaoaaGreatDoorWriteWrongG
namespace Go.Proofs.YtngfkonpehlaoaaGreatDoor.WriteWrong
open Go Go.Iv
theorem run0 (E : Nat → TypeId) : endsTrue ((evF Tryz.prog hint (trueSpec 4) 200).call 3 [.int .i64 0] (startH (mkG gl E))) = true := by kernel_rfl
theorem run1 (E : Nat → TypeId) : endsTrue ((evF Tryz.prog hint (trueSpec 4) 200).call 3 [.int .i64 1] (startH (mkG gl E))) = true := by kernel_rfl
theorem run2 (E : Nat → TypeId) : endsTrue ((evF Tryz.prog hint (trueSpec 4) 200).call 3 [.int .i64 2] (startH (mkG gl E))) = true := by kernel_rfl
theorem run3 (E : Nat → TypeId) : endsTrue ((evF Tryz.prog hint (trueSpec 4) 200).call 3 [.int .i64 3] (startH (mkG gl E))) = true := by kernel_rfl
theorem run4 (E : Nat → TypeId) : endsTrue ((evF Tryz.prog hint (trueSpec 4) 200).call 3 [.int .i64 4] (startH (mkG gl E))) = true := by kernel_rfl
theorem run5 (E : Nat → TypeId) : endsTrue ((evF Tryz.prog hint (trueSpec 4) 200).call 3 [.int .i64 5] (startH (mkG gl E))) = true := by kernel_rfl
end Go.Proofs.YtngfkonpehlaoaaGreatDoor.WriteWrong
