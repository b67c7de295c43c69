/- WriteWrong, run by the evaluator at some inputs. -/
import Derived.Test.YtngfkonpehlaoaaGreatDoorWriteWrongG
namespace Go.Proofs.YtngfkonpehlaoaaGreatDoor.WriteWrong
open Go Go.Iv
theorem run12 (E : Nat → TypeId) : endsTrue ((evF Tryz.prog hint (trueSpec 4) 200).call 3 [.int .i64 12] (startH (mkG gl E))) = true := by kernel_rfl
theorem run13 (E : Nat → TypeId) : endsTrue ((evF Tryz.prog hint (trueSpec 4) 200).call 3 [.int .i64 13] (startH (mkG gl E))) = true := by kernel_rfl
theorem run14 (E : Nat → TypeId) : endsTrue ((evF Tryz.prog hint (trueSpec 4) 200).call 3 [.int .i64 14] (startH (mkG gl E))) = true := by kernel_rfl
theorem run15 (E : Nat → TypeId) : endsTrue ((evF Tryz.prog hint (trueSpec 4) 200).call 3 [.int .i64 15] (startH (mkG gl E))) = true := by kernel_rfl
theorem run16 (E : Nat → TypeId) : endsTrue ((evF Tryz.prog hint (trueSpec 4) 200).call 3 [.int .i64 16] (startH (mkG gl E))) = true := by kernel_rfl
theorem run17 (E : Nat → TypeId) : endsTrue ((evF Tryz.prog hint (trueSpec 4) 200).call 3 [.int .i64 17] (startH (mkG gl E))) = true := by kernel_rfl
end Go.Proofs.YtngfkonpehlaoaaGreatDoor.WriteWrong
